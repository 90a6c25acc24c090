/- Merged texts. -/
import Derived.Test.YtnmedachaeanbaaGreatDoorA13
import Derived.Laws.Rows
namespace Go.Proofs.YtnmedachaeanbaaGreatDoor
set_option maxRecDepth 100000
set_option maxHeartbeats 3200000
open Go.RowKit
open Go.Lib (hid)
set_option linter.unusedVariables false
set_option linter.unusedSimpArgs false
theorem Z7C (b1 b2 : Nat) (pr : Ch → Bool) (A : Option Addr) (n c : Nat) (l : List Ch) (w : World) (hn : n = l.length) (h : RdCh w w.heap.size A l) (hb : n ≤ 140737488355328)
 (hcl : ∀ (x1 x2 x3 x4 : Int) (x6 : Bool) (x5 : ByteArray) (w' : World), Below w.heap.size w w' → Calls Tryz.prog 146 #[.agg #[.int .i64 x1, .bool x6, .int .u8 x2, .int .i64 x3, .int .u64 x4, .string x5], .pointer (some ⟨b1, 0, none⟩), .pointer (some ⟨b2, 0, none⟩)] w' fun e w'' => e = .returned (.bool (pr ⟨x1, x6, ⟨x2, x3, x4, x5⟩⟩)) ∧ Below w'.heap.size w' w'') :
 Calls Tryz.prog 229 #[.slice A n c, .func (.func 146) #[] #[.pointer (some ⟨b1, 0, none⟩), .pointer (some ⟨b2, 0, none⟩)]] w fun e w' => ∃ i : Int, e = .returned (.int .i64 i) ∧ IdxOut pr l i ∧ Below w.heap.size w w' := by
 have N := hid hn
 have HCL := hid hcl
 clear hn hcl
 go_enter Tryz.func229, Tryz.ntmps229
 go_wp2_with (fail)
 go_loopg [8] n (fun g iv wr => ∃ i : Nat, i ≤ n ∧ g = n - i ∧ iv = .int .i64 i ∧ Below w.heap.size w wr ∧ Hid (∀ x ∈ l.take i, pr x = false))
 case atStart => exact ⟨0, by omega, rfl, rfl, Below.refl _ _, hid (by simp)⟩
 case round =>
  obtain ⟨i, hi, hg, rfl, hbw, HI⟩ := hrel
  have HG := hid hg
  clear hg
  by_cases hlt : i < n
  ·have hil : i < l.length := by have := N.out; omega
   obtain ⟨ad, x, rfl, _, _, hx, hc1⟩ := (h.below hbw (Nat.le_refl _)).el hil
   have HT : Hid (l.take (i + 1) = l.take i ++ [x]) := hid (by rw [List.take_add_one, hx]; rfl)
   have HX := hid hx
   clear hx hil
   obtain ⟨x1, x6, x2, x3, x4, x5⟩ := x
   obtain ⟨r0, r1, r2, r3, r4, r5⟩ := Z0w hc1
   clear hc1
   by_cases hp : pr ⟨x1, x6, ⟨x2, x3, x4, x5⟩⟩ = true
   ·go_wp2_with (go_at_call 146; refine (HCL.out _ _ _ _ _ _ _ hbw).mono ?_; rintro e w' ⟨rfl, hb'⟩)
    go_ret
    exact ⟨i, rfl, .inr ⟨i, rfl, by have := N.out; omega, HI.out, _, HX.out, hp⟩, hbw.trans (hb'.mono hbw.size)⟩
   ·have hp' : pr ⟨x1, x6, ⟨x2, x3, x4, x5⟩⟩ = false := by simpa using hp
    clear hp
    go_wp2_with (go_at_call 146; refine (HCL.out _ _ _ _ _ _ _ hbw).mono ?_; rintro e w' ⟨rfl, hb'⟩)
    have hbw' := hbw.trans (hb'.mono hbw.size)
    go_roundg (n - (i + 1))
    case measure => have := HG.out; omega
    case rel =>
     refine ⟨i + 1, by omega, rfl, by go_num, hbw', hid ?_⟩
     intro y hy
     rw [HT.out] at hy
     rcases List.mem_append.1 hy with hy | hy
     ·exact HI.out y hy
     ·simp at hy; rw [hy]; exact hp'
  ·go_wp2_with (fail)
   go_ret
   refine ⟨-1, rfl, .inl ⟨rfl, ?_⟩, hbw⟩
   have h1 := HI.out
   rw [List.take_of_length_le (by have := N.out; omega)] at h1
   exact h1
theorem Z6D (b1 b2 : Nat) (pr : Ch → Bool) (A : Option Addr) (n c base : Nat) (l : List Ch) (w : World) (hown : OwCh w base (.slice A n c) l) (hbase : base ≤ w.heap.size) (hb : n ≤ 100000000) (hn : n = l.length)
 (hcl : ∀ (x1 x2 x3 x4 : Int) (x6 : Bool) (x5 : ByteArray) (w' : World), Below base w w' → Calls Tryz.prog 146 #[.agg #[.int .i64 x1, .bool x6, .int .u8 x2, .int .i64 x3, .int .u64 x4, .string x5], .pointer (some ⟨b1, 0, none⟩), .pointer (some ⟨b2, 0, none⟩)] w' fun e w'' => e = .returned (.bool (pr ⟨x1, x6, ⟨x2, x3, x4, x5⟩⟩)) ∧ Below w'.heap.size w' w'') :
 Calls Tryz.prog 144 #[.slice A n c, .func (.func 146) #[] #[.pointer (some ⟨b1, 0, none⟩), .pointer (some ⟨b2, 0, none⟩)]] w fun e w' =>
  ∃ A' c', e = .returned (.slice A' (l.filter (fun x => !pr x)).length c') ∧ OwCh w' base (.slice A' (l.filter (fun x => !pr x)).length c') (l.filter (fun x => !pr x)) ∧ Below base w w' := by
 have N := hid hn
 have HCL := hid hcl
 have hcap := hown.cap
 have hlc : n ≤ c := by rw [hn]; exact hcap.1
 have hcm : c ≤ 2 ^ 63 - 1 := hcap.2
 clear hn hcl hcap
 generalize hR : l.filter (fun x => !pr x) = R
 have HR := hid hR
 clear hR
 go_enter Tryz.func144, Tryz.ntmps144
 go_wp2_with (go_at_call 229; refine Hid.out ?_)
 refine hid ?_
 refine (Z7C b1 b2 pr A n c l w N.out (hown.rd Ch.enc_len) (by omega) (fun x1 x2 x3 x4 x6 x5 w' hb' => HCL.out x1 x2 x3 x4 x6 x5 w' (hb'.mono hbase))).mono ?_
 rintro e w1 ⟨ix, rfl, hix, hb1⟩
 have hbw1 : Below base w w1 := hb1.mono hbase
 have hown1 := hown.below hb1 (Nat.le_refl _)
 have hbase1 : base ≤ w1.heap.size := Nat.le_trans hbase hb1.size
 clear hown hb1
 rcases hix with ⟨rfl, hall⟩ | ⟨i0, rfl, hi0, hpre, x0, hx0, hpx0⟩
 ·have hRl : R = l := by
   rw [← HR.out]
   exact List.filter_eq_self.2 (fun x hx => by simp [hall x hx])
  have HRL := hid hRl
  clear hRl hall
  go_wp2_with (fail)
  go_ret
  refine ⟨A, c, ?_, ?_, hbw1⟩
  ·rw [HRL.out, ← N.out]; rfl
  ·rw [HRL.out, ← N.out]; exact hown1
 ·have hne : ((i0 : Int) == -1) = false := beq_eq_false_iff_ne.2 (by omega)
  have hi0n : i0 < n := by rw [N.out]; exact hi0
  have hst : Hid (l.take i0 = (l.take (i0 + 1)).filter (fun x => !pr x)) := hid (by
   rw [List.take_add_one, hx0, List.filter_append, List.filter_eq_self.2 (fun x hx => by simp [hpre x hx])]
   simp [hpx0])
  clear hpre hx0 hpx0 hi0
  go_wp2_with (fail)
  go_loopg [5, 6] (n - (i0 + 1)) (fun g iv jv wr => ∃ (i j : Nat) (m : List Ch), i < j ∧ j ≤ n ∧ g = n - j ∧ iv = .int .i64 i ∧ jv = .int .i64 j ∧ OwCh wr base (.slice A n c) m ∧ base ≤ wr.heap.size ∧ Below base w wr ∧
   Hid (m.length = n ∧ m.drop j = l.drop j ∧ m.take i = (l.take j).filter (fun x => !pr x)))
  case atStart => exact ⟨i0, i0 + 1, l, by omega, by omega, rfl, rfl, by go_num, hown1, hbase1, hbw1, hid ⟨N.out.symm, rfl, hst.out⟩⟩
  case round =>
   clear hown1 hbase1 hbw1 hst hne hi0n
   obtain ⟨i, j, m, hij, hj, hg, rfl, rfl, hown, hbs, hbw, HI⟩ := hrel
   have HG := hid hg
   clear hg
   by_cases hlt : j < n
   ·have hjm : j < m.length := by have := HI.out.1; omega
    obtain ⟨ad, x, rfl, _, hdm, hx, hc1⟩ := (hown.rd Ch.enc_len).el hjm
    have HX : Hid (l.take (j + 1) = l.take j ++ [x] ∧ m.drop (j + 1) = l.drop (j + 1)) := hid (by
     obtain ⟨h1, h2, h3⟩ := HI.out
     have h4 : l[j]? = some x := by
      have := congrArg (fun t => t[0]?) h2
      simp only [List.getElem?_drop, Nat.add_zero] at this
      rw [← this, hx]
     refine ⟨by rw [List.take_add_one, h4]; rfl, ?_⟩
     have := congrArg (fun t => t.drop 1) h2
     simpa [List.drop_drop] using this)
    clear hdm hx hjm
    obtain ⟨x1, x6, x2, x3, x4, x5⟩ := x
    obtain ⟨r0, r1, r2, r3, r4, r5⟩ := Z0w hc1
    clear hc1
    have hbx0 := heap_alloc_new wr (.cells #[.int .i64 x1, .bool x6, .int .u8 x2, .int .i64 x3, .int .u64 x4, .string x5] 75)
    have hbwA := hbw.alloc hbs (.cells #[.int .i64 x1, .bool x6, .int .u8 x2, .int .i64 x3, .int .u64 x4, .string x5] 75)
    have hownA := hown.alloc (.cells #[.int .i64 x1, .bool x6, .int .u8 x2, .int .i64 x3, .int .u64 x4, .string x5] 75)
    have hsz := Z1R wr (.cells #[.int .i64 x1, .bool x6, .int .u8 x2, .int .i64 x3, .int .u64 x4, .string x5] 75)
    have hwbA : ∀ k, wb (.slice (some ad) n c) = some k → k < wr.heap.size := fun k hk => (hown.wb_lt k hk).2
    by_cases hp : pr ⟨x1, x6, ⟨x2, x3, x4, x5⟩⟩ = true
    ·have HBX0 := hid hbx0
     have HWB := hid hwbA
     have HSZ := hid hsz
     clear hbx0 hwbA hsz
     go_wp2_with (go_at_call 146; refine (HCL.out _ _ _ _ _ _ _ hbwA).mono ?_; rintro e w2 ⟨rfl, hb2⟩)
     have hbw2 : Below base w w2 := hbwA.trans (hb2.mono (by rw [← HSZ.out]; omega))
     have hown2 := hownA.below hb2 (Nat.le_refl _)
     have hbs2 : base ≤ w2.heap.size := by have := hb2.size; rw [← HSZ.out] at this; omega
     go_roundg (n - (j + 1))
     case measure => have := HG.out; omega
     case rel =>
      obtain ⟨h1, h2, h3⟩ := HI.out
      obtain ⟨h4, h5⟩ := HX.out
      exact ⟨i, j + 1, m, by omega, by omega, rfl, rfl, by go_num, hown2, hbs2, hbw2, hid ⟨h1, h5, by rw [h4, List.filter_append, h3]; simp [hp]⟩⟩
    ·have hp' : pr ⟨x1, x6, ⟨x2, x3, x4, x5⟩⟩ = false := by simpa using hp
     clear hp
     have HBX0 := hid hbx0
     have HWB := hid hwbA
     have HSZ := hid hsz
     clear hbx0 hwbA hsz
     go_wp2_with (go_at_call 146; refine Hid.out ?_)
     refine hid ?_
     refine (HCL.out _ _ _ _ _ _ _ hbwA).mono ?_
     rintro e w2 ⟨rfl, hb2⟩
     have hbw2 : Below base w w2 := hbwA.trans (hb2.mono (by rw [← HSZ.out]; omega))
     have hown2 := hownA.below hb2 (Nat.le_refl _)
     have hbs2 : base ≤ w2.heap.size := by have := hb2.size; rw [← HSZ.out] at this; omega
     have hbx2 := (hb2.block wr.heap.size (by rw [← HSZ.out]; omega)).trans HBX0.out
     obtain ⟨b0, b1, b2, b3, b4, b5⟩ := Z5G hbx2
     have him : i < m.length := by have := HI.out.1; omega
     have hin : i < n := by omega
     clear hbx2
     obtain ⟨i1, hi1, hz1, hz2, hz3⟩ := info_parts Tryz.infoCh
     have I1 := hid hi1
     have Z2 := hid hz2
     clear hi1 hz1 hz2 hz3 hownA hbwA
     go_wp2_with (refine Z2D rfl 75 (.tmp 33) (.tmp 32) rfl rfl i1 I1.out Z2.out Ch.enc_len Ch.enc_one hown2 him ⟨x1, x6, ⟨x2, x3, x4, x5⟩⟩ (cs := #[.int .i64 x1, .bool x6, .int .u8 x2, .int .i64 x3, .int .u64 x4, .string x5]) rfl (p := ad.add (i * 6)) rfl rfl rfl ?_; intro w3 hown3 hg3)
     have hbw3 : Below base w w3 := hbw2.grown hg3 hbs2 (fun k hk => (hown2.wb_lt k hk).1)
     have hbs3 : base ≤ w3.heap.size := Nat.le_trans hbs2 hg3.size
     go_roundg (n - (j + 1))
     case measure => have := HG.out; omega
     case rel =>
      obtain ⟨h1, h2, h3⟩ := HI.out
      obtain ⟨h4, h5⟩ := HX.out
      refine ⟨i + 1, j + 1, m.set i ⟨x1, x6, ⟨x2, x3, x4, x5⟩⟩, by omega, by omega, rfl, by go_num, by go_num, hown3, hbs3, hbw3, hid ⟨by rw [List.length_set]; exact h1, by rw [List.drop_set_of_lt (by omega)]; exact h5, ?_⟩⟩
      rw [h4, List.filter_append, List.take_add_one, List.getElem?_set_self him, List.take_set_of_le (Nat.le_refl i), h3]
      simp [hp']
   ·have hjn : j = n := by omega
    have hm0 := HI.out
    obtain ⟨i1, hi1, hz1, hz2, hz3⟩ := info_parts Tryz.infoCh
    have I1 := hid hi1
    have Z1 := hid hz1
    have hmR : m.take i = R := by
     obtain ⟨h1, h2, h3⟩ := hm0
     rw [h3, ← HR.out, List.take_of_length_le (by have := N.out; omega)]
    have him : i ≤ m.length := by have := hm0.1; omega
    have hiR : i = R.length := by rw [← hmR, List.length_take, Nat.min_eq_left him]
    have HIR := hid hiR
    have HMR := hid hmR
    have HML : Hid (m.length = n) := hid hm0.1
    clear hi1 hz1 hz2 hz3 hmR hiR hm0 hjn
    rcases Nat.lt_or_ge i c with hci | hci
    ·have hne : ¬ c = i := by omega
     go_wp2_with (refine Z02 (i := i) (X := A.map (fun x => x.add (i * 6))) rfl (.tmp 38) _ rfl rfl Tryz.slCh i1 _ I1.out Z1.out rfl (by intro u hu; exact Ch.enc_one ⟨0, false, V.zero⟩ u hu) Ch.enc_len hown him (by exact .inr rfl) (by rw [HML.out]) rfl ?_; intro w3 hown3 hg3)
     have hbw3 : Below base w w3 := hbw.grown hg3 hbs (fun k hk => (hown.wb_lt k hk).1)
     rw [HMR.out] at hown3
     have hri := HIR.out
     subst hri
     go_ret
     exact ⟨A, c, rfl, hown3, hbw3⟩
    ·go_wp2_with (refine Z02 (i := i) (X := A) rfl (.tmp 38) _ rfl rfl Tryz.slCh i1 _ I1.out Z1.out rfl (by intro u hu; exact Ch.enc_one ⟨0, false, V.zero⟩ u hu) Ch.enc_len hown him (by have := HML.out; left; omega) (by rw [HML.out]) rfl ?_; intro w3 hown3 hg3)
     have hbw3 : Below base w w3 := hbw.grown hg3 hbs (fun k hk => (hown.wb_lt k hk).1)
     rw [HMR.out] at hown3
     have hri := HIR.out
     subst hri
     go_ret
     exact ⟨A, c, rfl, hown3, hbw3⟩
theorem Y1n (s b1 b2 : Nat) (l : List Ky) (b : Bool) (x1 x2 x3 x4 : Int) (x6 : Bool) (x5 : ByteArray) (w : World) (hS : Sch w s l)
 (h1 : w.heap[b1]? = some (.cells #[.pointer (some ⟨s, 0, none⟩)] 29 (0, 0))) (h2 : w.heap[b2]? = some (.cells #[.bool b] 4 (0, 0))) :
 Calls Tryz.prog 146 #[.agg #[.int .i64 x1, .bool x6, .int .u8 x2, .int .i64 x3, .int .u64 x4, .string x5], .pointer (some ⟨b1, 0, none⟩), .pointer (some ⟨b2, 0, none⟩)] w fun e w' => e = .returned (.bool (!Z1v l b x1)) ∧ Below w.heap.size w w' := by
 have y0 := Z0c w (.cells #[.int .i64 x1, .bool x6, .int .u8 x2, .int .i64 x3, .int .u64 x4, .string x5] 75)
 have c1 := Z2u ((y0.block b1 (Z0b h1)).trans h1)
 have g2 := (y0.block b2 (Z0b h2)).trans h2
 have HS := hid (hS.ext y0)
 have G2 := hid g2
 clear g2 hS
 go_enter Tryz.func146, Tryz.ntmps146
 go_wp2_with (go_at_call 127; refine Hid.out ?_)
 refine hid ?_
 generalize hw0 : w.alloc _ = w0 at *
 clear hw0
 refine (Z36 s l x1 w0 HS.out).mono ?_
 rintro e w1 ⟨i, c, kd, d, g, q, ok, rfl, hk, hb, y1⟩
 have y2 := Z0c w1 (.cells #[.int .i64 i, .bool c, .int .u8 kd, .bool d, .bool g, .int .i64 q] 78)
 have g3 := (y1.block b2 (Z0b G2.out)).trans G2.out
 have c2 := Z2u ((y2.block b2 (Z0b g3)).trans g3)
 have yy := Z0a y0 (Z0a y1 y2)
 have HB := hid hb
 have HK := hid hk
 clear g3 hk hb
 cases ok with
 | false =>
   have HE : Hid (Z1v l b x1 = false) := hid (by
    have h := HB.out
    unfold Z1v
    cases hq : Z0N l x1 with
    | none => rfl
    | some k => rw [hq] at h; cases h)
   go_wp2_with (fail)
   go_ret
   exact ⟨Z0g (by rw [HE.out]; rfl), yy⟩
 | true =>
   have HE : Hid (Z1v l b x1 = (c == b)) := hid (by
    have h := HB.out
    have h2 := HK.out
    unfold Z1v
    cases hq : Z0N l x1 with
    | none => rw [hq] at h; cases h
    | some k => rw [hq] at h2; simp at h2; subst h2; rfl)
   go_wp2_with (fail)
   go_ret
   exact ⟨Z0g (by rw [HE.out] <;> (cases c <;> cases b <;> rfl)), yy⟩
theorem Y4l (s : Nat) (l : List Ky) (b : Bool) (A : Option Addr) (n c : Nat) (p : List Ch) (w : World) (hn : n = p.length) (h : RdCh w w.heap.size A p) (hb : n ≤ 100000000) (hS : Sch w s l) :
 Calls Tryz.prog 67 #[.pointer (some ⟨s, 0, none⟩), .slice A n c, .bool b] w (Y2p (Z0T l b p) w) := by
 have N := hid hn
 have ya := Z0c w (.cells #[.pointer (some ⟨s, 0, none⟩)] 29)
 have yb := Z0c (w.alloc (.cells #[.pointer (some ⟨s, 0, none⟩)] 29)) (.cells #[.bool b] 4)
 have g1 := heap_alloc_new w (.cells #[.pointer (some ⟨s, 0, none⟩)] 29)
 have g2 := heap_alloc_new (w.alloc (.cells #[.pointer (some ⟨s, 0, none⟩)] 29)) (.cells #[.bool b] 4)
 have G1 := hid ((yb.block w.heap.size (by simp)).trans g1)
 rw [World.size_alloc] at g2
 have G2 := hid g2
 have y := Z0a ya yb
 have hh := h.ext y
 have HS := hid (hS.ext y)
 clear hn g1 g2 ya yb h hS
 go_enter Tryz.func67, Tryz.ntmps67
 go_wp2_with (go_at_call 145; refine Hid.out ?_)
 refine hid ?_
 refine (Z3T A n c p _ N.out hh hb).mono ?_
 rintro e w1 ⟨A', c', rfl, hown, y1⟩
 have HOW := hid hown
 have hsz2 : ((w.alloc (.cells #[.pointer (some ⟨s, 0, none⟩)] 29)).alloc (.cells #[.bool b] 4)).heap.size = w.heap.size + 2 := by simp
 have G1' := hid ((y1.block w.heap.size (by rw [hsz2]; omega)).trans G1.out)
 have G2' := hid ((y1.block (w.heap.size + 1) (by rw [hsz2]; omega)).trans G2.out)
 have hb1 : w.heap.size + 2 ≤ w1.heap.size := by have := y1.size; omega
 have HSZ := hid hsz2
 clear hown hsz2
 go_wp2_with (go_at_call 144; refine Hid.out ?_)
 refine hid ?_
 refine (Z6D w.heap.size (w.heap.size + 1) (fun c => !Z1v l b c.key) A' p.length c' _ p w1 HOW.out (by rw [HSZ.out]; exact hb1) (by have := N.out; omega) rfl ?cl).mono ?_
 case cl =>
  intro x1 x2 x3 x4 x6 x5 w' hb'
  refine Y1n s _ _ l b x1 x2 x3 x4 x6 x5 w' (HS.out.ext (y1.trans hb')) ?_ ?_
  ·exact (hb'.block _ (by rw [HSZ.out]; omega)).trans G1'.out
  ·exact (hb'.block _ (by rw [HSZ.out]; omega)).trans G2'.out
 rintro e w2 ⟨A2, c2, rfl, hown2, y2⟩
 have yy : Below w.heap.size w w2 := Z0a y (y1.trans y2)
 have hf : p.filter (fun x => !!Z1v l b x.key) = Z0T l b p := by simp [Z0T]
 rw [hf] at hown2 ⊢
 have HO2 := hid (hown2.base_le (B := w.heap.size) (by rw [HSZ.out]; omega))
 clear hown2 hf
 go_wp2_with (fail)
 go_ret
 exact ⟨A2, c2, rfl, HO2.out, yy⟩
theorem Z6Y (A B : Option Addr) (n c n2 c2 : Nat) (l : List Ky) (b : Bool) (p : List Ch) (w : World) (hn : n = l.length) (h : RdKy w w.heap.size A l) (hb : n ≤ 140737488355328) (hn2 : n2 = p.length) (h2 : RdCh w w.heap.size B p) (hb2 : n2 ≤ 100000000) :
 Calls Tryz.prog 13 #[.slice A n c, .slice B n2 c2, .bool b] w (Y2p (Z0T l b p) w) := by
 have N := hid hn
 have N2 := hid hn2
 generalize hR : Z0T l b p = R
 have HR := hid hR
 clear hn hn2 hR
 go_enter Tryz.func13, Tryz.ntmps13
 go_wp2_with (fail)
 go_loopg [7, 8] n2 (fun g ov kv wr => ∃ (m : Nat) (o : List Ch), m ≤ n2 ∧ g = n2 - m ∧ kv = .int .i64 m ∧ OwCh wr w.heap.size ov o ∧ o.length ≤ m ∧
  Below w.heap.size w wr ∧ Hid (o ++ Z0T l b (p.drop m) = R))
 case atStart => exact ⟨0, [], by omega, rfl, rfl, Ow.nil _ _, by simp, Below.refl _ _, hid (by rw [← HR.out]; simp)⟩
 case round =>
  obtain ⟨m, o, hm, hg, rfl, hown, hol, hbw, HI⟩ := hrel
  have HG := hid hg
  clear hg HR
  by_cases hlt : m < n2
  ·have hkp : m < p.length := by have := N2.out; omega
   obtain ⟨ad, x, rfl, had, hd1, hx1, hc0⟩ := (h2.below hbw (Nat.le_refl _)).el hkp
   obtain ⟨x1, g, x2, x3, x4, x5⟩ := x
   have HI' : Hid (o ++ ((if Z1v l b x1 = true then [⟨x1, g, x2, x3, x4, x5⟩] else []) ++ Z0T l b (p.drop (m + 1))) = R) := hid (by
    rw [← HI.out, hd1]
    unfold Z0T
    rw [List.filter_cons]
    by_cases hk : Z1v l b x1 = true <;> simp [hk])
   obtain ⟨r0, -⟩ := Z0w hc0
   have HC0 := hid hc0
   clear HI hd1 hx1 hc0
   have hw2 : IntKind.i64.wrap ((m:Int) + 1) = (m : Int) + 1 := IntWalk.i64_in _ (by omega)
   go_wp2_with (go_at_call 33; refine Hid.out ?_)
   refine hid ?_
   refine (Z51 A n c l x1 wr N.out ((h.below hbw (Nat.le_refl _)).more hbw.size) hb).mono ?_
   rintro e w1 ⟨k1, k2, k3, k4, k5, k6, ok, rfl, hk, hb, y1⟩
   have y2 := Z0c w1 (.cells #[.int .i64 k1, .bool k2, .int .u8 k3, .bool k4, .bool k5, .int .i64 k6] 78)
   have hown1 := (hown.below y1 (Nat.le_refl _)).alloc (.cells #[.int .i64 k1, .bool k2, .int .u8 k3, .bool k4, .bool k5, .int .i64 k6] 78)
   have yy := Z0a hbw (Z0a y1 y2)
   have hc1 := HC0.out.keep (w' := w1.alloc (.cells #[.int .i64 k1, .bool k2, .int .u8 k3, .bool k4, .bool k5, .int .i64 k6] 78)) (fun q hq => (Z0a y1 y2).cell (by rw [hq, Z0U]; exact Nat.lt_of_lt_of_le had hbw.size))
   obtain ⟨r0, r1, r2, r3, r4, r5⟩ := Z0w hc1
   have HB := hid hb
   have HK := hid hk
   have HYY := hid yy
   clear hk hb hc1 hown
   have skip : Z1v l b x1 = false → Hid (o ++ Z0T l b (p.drop (m + 1)) = R) := fun hk => hid (by rw [← HI'.out, if_neg (by rw [hk]; simp), List.nil_append])
   cases ok with
   | false =>
     have HE : Hid (o ++ Z0T l b (p.drop (m + 1)) = R) := skip (by
      have h := HB.out
      unfold Z1v
      cases hq : Z0N l x1 with
      | none => rfl
      | some k => rw [hq] at h; cases h)
     clear skip
     go_wp2_with (fail)
     go_roundg (n2 - (m + 1))
     case measure => have := HG.out; omega
     case rel => exact ⟨m + 1, o, by omega, rfl, by go_num, hown1, by omega, yy, HE⟩
   | true =>
     have hke : Z1v l b x1 = (k2 == b) := by
      have h := HB.out
      have h2 := HK.out
      unfold Z1v
      cases hq : Z0N l x1 with
      | none => rw [hq] at h; cases h
      | some k => rw [hq] at h2; simp at h2; subst h2; rfl
     by_cases hkb : k2 = b
     ·subst hkb
      have HE : Hid (o ++ ([⟨x1, g, x2, x3, x4, x5⟩] ++ Z0T l k2 (p.drop (m + 1))) = R) := hid (by rw [← HI'.out, if_pos (by rw [hke]; simp)])
      clear skip hke
      go_wp2_with (first
       | (at_builtin; refine Y5u (m := [⟨x1, g, x2, x3, x4, x5⟩]) rfl (.tmp 34) (.tmp 39) rfl rfl (by first | exact (hown1.drewN _).alloc _ | exact hown1.alloc _) _ _ 1 1 rfl rfl (by first | exact Z1O (enc := Ch.enc) _ _ _ rfl | exact Z32 (enc := Ch.enc) _ _ _ rfl (Z1R _ _)) (by simp only [List.length_singleton]; omega) (Nat.le_trans HYY.out.size (Z1c _ _)) ?_; intro v' w' hown' hgr hv'))
      obtain ⟨s1, s2, s3⟩ := Z31 (nq := 0) hown1 yy (Nat.le_refl _) hgr hv'
      go_roundg (n2 - (m + 1))
      case measure => have := HG.out; omega
      case rel => exact ⟨m + 1, _, by omega, rfl, by go_num, hown', by simp; omega, s1, hid (by rw [← HE.out, List.append_assoc])⟩
     ·have HE : Hid (o ++ Z0T l b (p.drop (m + 1)) = R) := skip (by rw [hke]; simp [hkb])
      have hkq : (k2 == b) = false := by simp [hkb]
      clear skip hke
      go_wp2_with (fail)
      go_roundg (n2 - (m + 1))
      case measure => have := HG.out; omega
      case rel => exact ⟨m + 1, o, by omega, rfl, by go_num, hown1, by omega, yy, HE⟩
  ·have e : o = R := by rw [← HI.out, List.drop_eq_nil_of_le (by have := N2.out; omega)]; simp [Z0T]
   have HE := hid e
   clear e
   go_wp2_with (fail)
   rw [HE.out] at hown
   obtain ⟨A', c', rfl, _, _⟩ := hown.form
   go_ret
   exact ⟨A', c', rfl, hown, hbw⟩
def PartC (w : World) (B : Nat) (v : Value) (x : ClS) : Prop :=
 OwAt w B (.slice x.As x.c.s.length x.cs) x.c.s ∧ ∀ k, wb (.slice x.As x.c.s.length x.cs) = some k → wb v ≠ some k
theorem PartC.below {w w' : World} {B : Nat} {v : Value} {x : ClS} (h : PartC w B v x) (y : Below w.heap.size w w') : PartC w' B v x := ⟨h.1.below y (Nat.le_refl _), h.2⟩
theorem PartC.app {w w' : World} {B : Nat} {v v' : Value} {x : ClS} (h : PartC w B v x) (hg : w.grownBy w' (wb v)) (hv : v' = v ∧ w' = w ∨ wb v' = wb v ∨ wb v' = some w.heap.size) : PartC w' B v' x := by
 refine ⟨h.1.keep fun k hk => hg.block k (h.1.wb_lt k hk).2 (fun e => h.2 k hk e.symm), fun k hk => ?_⟩
 have hlt := (h.1.wb_lt k hk).2
 rcases hv with ⟨rfl, _⟩ | hv | hv
 ·exact h.2 k hk
 ·rw [hv]; exact h.2 k hk
 ·rw [hv]; intro e; injection e with e; omega
theorem PartC.set {w : World} {B g n c j : Nat} {u : Value} {x : ClS} (h : PartC w B (.slice (some ⟨g, 0, none⟩) n (c + 1)) x) : PartC (w.setCell ⟨g, j, none⟩ u) B (.slice (some ⟨g, 0, none⟩) n (c + 1)) x :=
 ⟨h.1.setCell (p := ⟨g, j, none⟩) (fun e => h.2 g e rfl) u, h.2⟩
def Y5B (o : List Cl) (w : World) (e : Ending) (w' : World) : Prop :=
 ∃ A c l, e = .returned (.slice A l.length c) ∧ Z0i l = o ∧ OwCs w' w.heap.size (.slice A l.length c) l ∧ (∀ x ∈ l, PartC w' w.heap.size (.slice A l.length c) x) ∧ Below w.heap.size w w'
theorem Z9j (A1 A2 : Option Addr) (n1 n2 c1 c2 : Nat) (l : List Int) (s : List At) (w : World) (hn1 : n1 = l.length) (hn2 : n2 = s.length) (h1 : Z3i w w.heap.size A1 l) (h2 : RdAt w w.heap.size A2 s) (b1 : n1 ≤ 100000000) (b2 : n2 ≤ 100000000) :
 Calls Tryz.prog 183 #[.slice A1 n1 c1, .slice A2 n2 c2] w (Y5B (l.map (fun r => ⟨r, s⟩)) w) := by
 have N1 := hid hn1
 have N2 := hid hn2
 have H1 := hid h1
 have H2 := hid h2
 clear hn1 hn2 h1 h2
 go_enter Tryz.func183, Tryz.ntmps183
 go_wp2_with (fail)
 go_loopg [5, 10] n1 (fun g v iv wr => ∃ (i : Nat) (L : List ClS), i ≤ n1 ∧ g = n1 - i ∧ iv = .int .i64 (i : Int) ∧ Z0i L = (l.take i).map (fun r => ⟨r, s⟩) ∧ OwCs wr w.heap.size v L ∧ (∀ x ∈ L, PartC wr w.heap.size v x) ∧ Below w.heap.size w wr)
 case atStart => exact ⟨0, [], by omega, rfl, rfl, rfl, Ow.nil _ _, fun x hx => (by cases hx), Below.refl _ _⟩
 case round =>
  obtain ⟨i, L, hi, hg, rfl, hL, ho, hp, y⟩ := hrel
  have HG := hid hg
  have HO := hid ho
  have HP := hid hp
  have HL := hid hL
  have LN : Hid (L.length = i) := hid (by have := congrArg List.length hL; rw [Z0D] at this; simp at this; have := N1.out; omega)
  clear hg ho hp hL
  by_cases hlt : i < n1
  ·have hl1 : i < l.length := by have := N1.out; omega
   obtain ⟨ad, r, rfl, _, _, hx1, hc1⟩ := (H1.out.ext y).el hl1
   have E := hid (show (l.take (i + 1)).map (fun r => (⟨r, s⟩ : Cl)) = (l.take i).map (fun r => ⟨r, s⟩) ++ [⟨r, s⟩] by rw [List.take_add_one, hx1]; simp)
   have z0 : wr.cell? (ad.add (i * 1)) = some (.int .i32 r) := by have := hc1 0 _ rfl; rwa [Z0o] at this
   rw [Nat.mul_one] at z0
   have hw2 : IntKind.i64.wrap ((i:Int) + 1) = (i : Int) + 1 := IntWalk.i64_in _ (by omega)
   clear hx1 hc1 hl1
   go_wp2_with (first
    | (go_at_call 139; refine (Z4f A2 n2 c2 s _ N2.out (H2.out.ext y) b2).mono ?_; rintro e w1 ⟨A3, k3, rfl, o3, y3⟩; have O3 := hid o3; have Y3 := hid y3; clear o3 y3)
    | (at_builtin; refine Y5A (m := [⟨⟨r, s⟩, A3, k3⟩]) rfl (.tmp 14) (.tmp 19) rfl rfl (by exact (HO.out.below Y3.out (Nat.le_refl _)).alloc _) _ _ 1 1 rfl rfl (by exact Z32 (enc := ClS.enc) (size := 2) _ _ ⟨⟨r, s⟩, A3, k3⟩ rfl (by simp)) (by have := LN.out; simp only [List.length_singleton]; omega) (by have := y.size; have := Y3.out.size; simp at *; omega) ?_; intro v' w' hown' hgr hv'))
   have yz := Z0a y Y3.out
   have yw := Z1h (yz.alloc yz.size _) (by have := yz.size; simp at this ⊢; omega) ((HO.out.below Y3.out (Nat.le_refl _)).alloc _) (Nat.le_refl _) hgr
   have hP' : ∀ x ∈ L ++ [(⟨⟨r, s⟩, A3, k3⟩ : ClS)], PartC w' w.heap.size v' x := fun x hx => by
    have ho0 := HO.out
    rcases List.mem_append.1 hx with hx | hx
    ·refine PartC.app ?_ hgr hv'
     exact ⟨((HP.out x hx).1.below Y3.out (Nat.le_refl _)).alloc _, (HP.out x hx).2⟩
    ·simp at hx; subst hx
     refine PartC.app ?_ hgr hv'
     refine ⟨(O3.out.base_le y.size).alloc _, fun k hk e => ?_⟩
     have h1 := (O3.out.wb_lt k hk).1
     have h2 := (ho0.wb_lt k e).2
     omega
   have E2 : Z0i (L ++ [(⟨⟨r, s⟩, A3, k3⟩ : ClS)]) = (l.take (i + 1)).map (fun r => ⟨r, s⟩) := by rw [E.out, ← HL.out]; unfold Z0i; simp
   go_wp2_with (fail)
   go_roundg (n1 - (i + 1))
   case measure => have := HG.out; omega
   case rel => exact ⟨i + 1, L ++ [⟨⟨r, s⟩, A3, k3⟩], by omega, rfl, by go_num, E2, hown', hP', yw⟩
  ·have hin : i = n1 := by omega
   subst hin
   have e : (l.take i) = l := List.take_of_length_le (by have := N1.out; omega)
   have hL := HL.out
   rw [e] at hL
   obtain ⟨A', c', rfl, _, _⟩ := HO.out.form
   have hO := HO.out
   have hP := HP.out
   have HLL := hid hL
   clear e hL
   go_wp2_with (fail)
   go_ret
   exact ⟨A', c', L, rfl, HLL.out, hO, hP, y⟩
theorem Z7D (A : Option Addr) (n c : Nat) (l : List ClS) (w : World) (hn : n = l.length) (h : RdCl w w.heap.size A l) (hb : n ≤ 100000000) (hs : ∀ x ∈ l, x.c.s.length ≤ 100000000) :
 Calls Tryz.prog 184 #[.slice A n c] w (Y5B (Z0i l) w) := by
 have N := hid hn
 have HS := hid hs
 have HR := hid h.1
 have HP := hid h.2
 clear hn hs h
 go_enter Tryz.func184, Tryz.ntmps184
 go_wp2_with (go_at_call 260; refine Hid.out ?_)
 refine hid ?_
 refine (Z9i A n c l w N.out HR.out (by omega)).mono ?_
 rintro e w1 ⟨A1, k1, rfl, o1, y1⟩
 have O1 := hid o1
 have Y1 := hid y1
 have LB := hid (show l.length ≤ 100000000 by have := N.out; omega)
 clear o1 y1
 go_wp2_with (fail)
 go_loopg [9] l.length (fun g iv wr => ∃ (m : Nat) (D : List ClS), m ≤ l.length ∧ g = l.length - m ∧ iv = .int .i64 (m : Int) ∧ D.length = m ∧ Z0i D = Z0i (l.take m) ∧
  OwCs wr w.heap.size (.slice A1 l.length k1) (D ++ l.drop m) ∧ (∀ x ∈ D, PartC wr w.heap.size (.slice A1 l.length k1) x) ∧ Below w.heap.size w wr)
 case atStart => exact ⟨0, [], by omega, rfl, rfl, rfl, rfl, O1.out, fun x hx => (by cases hx), Y1.out⟩
 case round =>
  obtain ⟨m, D, hm, hg, rfl, hD, hDo, ho, hDp, y⟩ := hrel
  have HG := hid hg
  clear hg
  by_cases hlt : m < l.length
  ·obtain ⟨x, hxi⟩ : ∃ x, l[m]? = some x := ⟨l[m], by rw [List.getElem?_eq_getElem hlt]⟩
   have hdrop : l.drop m = x :: l.drop (m + 1) := by
    rw [List.drop_eq_getElem_cons hlt]; rw [List.getElem?_eq_getElem hlt] at hxi; injection hxi with hxi; rw [hxi]
   have hxm := List.mem_of_getElem? hxi
   rw [hdrop] at ho
   have hlen : (D ++ x :: l.drop (m + 1)).length = l.length := by rw [List.length_append, hD, List.length_cons, List.length_drop]; omega
   have hi : m < (D ++ x :: l.drop (m + 1)).length := by omega
   obtain ⟨g, cur, hA, hq1, hBg, hgb, hq2, hq3, hq4, hq5⟩ := ho.row (by omega)
   have hk1 : 0 < k1 := by omega
   clear hq1 hq2 hq3 hq4 hq5
   subst hA
   obtain ⟨ad, hA2, _, hcx⟩ := (ho.rd ClS.enc_len).at_ hi
   injection hA2 with hA2
   subst hA2
   rw [Z52] at hcx
   have hx : (D ++ x :: l.drop (m + 1))[m] = x := by simp [List.getElem_append_right, hD]
   rw [hx] at hcx
   have p1 := hid ((HP.out x hxm).ext y)
   have hS := hid (HS.out x hxm)
   obtain ⟨k2, rfl⟩ : ∃ k2, k1 = k2 + 1 := ⟨k1 - 1, by omega⟩
   have HDP := hid hDp
   have hglt := Z0b hgb
   have HT := hid (show Z0i (D ++ [x]) = Z0i (l.take (m + 1)) by
    rw [List.take_add_one, hxi]; unfold Z0i at hDo ⊢; rw [List.map_append, List.map_append, hDo]; rfl)
   have HO := hid ho
   have HGB := hid hgb
   have HD := hid hD
   obtain ⟨⟨r, s⟩, As, cs⟩ := x
   obtain ⟨z0, z1⟩ := Z1I hcx
   have hfr : ∀ j, wr.frozen? ⟨g, j, none⟩ = false := fun j => Z0d hgb j
   have e1 : (m : Int) < (l.length : Int) := by omega
   have hw2 : IntKind.i64.wrap ((m:Int) + 1) = (m : Int) + 1 := IntWalk.i64_in _ (by have := LB.out; omega)
   clear hcx hx ho hDp hDo hxi hdrop hgb hD hlen hi hxm z0
   go_wp2_with (go_at_call 139; refine Hid.out ?_)
   refine hid ?_
   refine (Z4f As s.length cs s wr rfl p1.out hS.out).mono ?_
   rintro e w2 ⟨A2, c2, rfl, o2, y2⟩
   have O2 := hid o2
   have Y2 := hid y2
   have hgb2 := (y2.block g hglt).trans HGB.out
   have hf2 : w2.frozen? ⟨g, m * 2 + 1, none⟩ = false := Z0d hgb2 _
   have HC2 : Hid (∃ cur', w2.heap[g]? = some (.cells cur' 41 (0, 0))) := hid ⟨_, hgb2⟩
   have z1' : w2.cell? ⟨g, m * 2 + 1, none⟩ = some (.slice As s.length cs) := (y2.cell (p := ⟨g, m * 2 + 1, none⟩) hglt).trans z1
   clear o2 y2 hgb2
   go_wp2_with (fail)
   have ho2 := HO.out.below Y2.out (Nat.le_refl _)
   have hS3 := Ow.setEl ClS.enc_len ho2 (i := m) (j := 1) (u := .slice A2 s.length c2) (a' := ⟨⟨r, s⟩, A2, c2⟩) (by simp; have := HD.out; omega) (by omega) (by simp [List.getElem_append_right, HD.out, ClS.enc])
   rw [List.set_append_right _ _ (by have := HD.out; omega), show m - D.length = 0 by have := HD.out; omega, List.set_cons_zero] at hS3
   have yz := (Z0a y Y2.out).setCell (p := ⟨g, m * 2 + 1, none⟩) hBg (.slice A2 s.length c2)
   have hP3 : ∀ x ∈ D ++ [(⟨⟨r, s⟩, A2, c2⟩ : ClS)], PartC (w2.setCell ⟨g, m * 2 + 1, none⟩ (.slice A2 s.length c2)) w.heap.size (.slice (some ⟨g, 0, none⟩) l.length (k2 + 1)) x := fun x hx => by
    rcases List.mem_append.1 hx with hx | hx
    ·exact ((HDP.out x hx).below Y2.out).set
    ·simp at hx; subst hx
     refine PartC.set ⟨O2.out.base_le y.size, fun k hk e => ?_⟩
     have h1 := (O2.out.wb_lt k hk).1
     injection e with e
     have e : g = k := e
     omega
   go_roundg (l.length - (m + 1))
   case measure => have := HG.out; omega
   case rel => exact ⟨m + 1, D ++ [⟨⟨r, s⟩, A2, c2⟩], by omega, rfl, by go_num, by rw [List.length_append, HD.out]; rfl, by rw [← HT.out]; simp [Z0i], by rw [List.append_assoc]; exact hS3, hP3, yz⟩
  ·have hml : m = l.length := by omega
   subst hml
   have HO := hid ho
   have HDP := hid hDp
   have HDO := hid hDo
   have HD := hid hD
   clear ho hDp hDo hD
   go_wp2_with (fail)
   go_ret
   have hd : l.drop l.length = [] := by simp
   have ho := HO.out
   have hp := HDP.out
   rw [hd, List.append_nil] at ho
   have hl : l.length = D.length := HD.out.symm
   rw [hl] at ho hp ⊢
   exact ⟨A1, k1, D, rfl, by rw [HDO.out, List.take_length], ho, hp, y⟩
theorem Tryz.unCl : Tryz.prog.underlying 41 = some (.struct (Tryz.prog.fieldsOf 41)) := by kernel_rfl
theorem Y0f (s : Nat) (l : List Ky) (r : Int) (As Ap : Option Addr) (n cs np cp : Nat) (set : List At) (p : List Ch) (w : World) (hS : Sch w s l) (hn : n = set.length) (hp : np = p.length) (h1 : RdAt w w.heap.size As set) (h2 : RdCh w w.heap.size Ap p)
 (b1 : n ≤ 100000000) (b2 : np ≤ 100000000) (g1 : n ≤ cs) (g2 : cs ≤ maxLen) :
 Calls Tryz.prog 159 #[.pointer (some ⟨s, 0, none⟩), .agg #[.int .i32 r, .slice As n cs], .slice Ap np cp] w
  fun e w' => ∃ A c, e = .returned (.agg #[.int .i32 r, .slice A (actC l ⟨r, set⟩ p).s.length c]) ∧ OwAt w' w.heap.size (.slice A (actC l ⟨r, set⟩ p).s.length c) (actC l ⟨r, set⟩ p).s ∧ Below w.heap.size w w' := by
 have ya := Z0c w (.cells #[.int .i32 r, .slice As n cs] 41)
 have yb := Z0c (w.alloc (.cells #[.int .i32 r, .slice As n cs] 41)) (.cells #[.int .i32 0, .slice none 0 0] 41)
 have g1' := heap_alloc_new w (.cells #[.int .i32 r, .slice As n cs] 41)
 have g2' := heap_alloc_new (w.alloc (.cells #[.int .i32 r, .slice As n cs] 41)) (.cells #[.int .i32 0, .slice none 0 0] 41)
 have G1 := (yb.block w.heap.size (by simp)).trans g1'
 rw [World.size_alloc] at g2'
 have y := Z0a ya yb
 have N := hid hn
 have P := hid hp
 have HR : Hid (∃ X, (actC l ⟨r, set⟩ p).s = X ∧ Z0K (Z0T l (r == 10) p) set = X) := hid ⟨_, rfl, rfl⟩
 obtain ⟨X, hX1, hX2⟩ := HR.out
 rw [hX1]
 have HX := hid hX2
 clear ya yb g1' hX1 hX2 HR hn hp
 have hbp : (Z0T l (r == 10) p).length ≤ np := by rw [P.out]; exact List.length_filter_le _ _
 have BND : Hid (np ≤ 100000000) := hid b2
 go_enter Tryz.func159, Tryz.ntmps159
 go_wp2_with (fail)
 obtain ⟨sz, hsz⟩ : ∃ z, w.heap.size = z := ⟨_, rfl⟩
 have HSZ := hid hsz
 generalize ((w.alloc (.cells #[.int .i32 r, .slice As n cs] 41)).alloc (.cells #[.int .i32 0, .slice none 0 0] 41)) = v at *
 have Y := hid y
 have HG1 := hid G1
 have HG2 := hid g2'
 obtain ⟨a0, a1⟩ := Z6P G1
 obtain ⟨e0, e1⟩ := Z6P g2'
 have hlt1 := Z0b G1
 have hlt2 := Z0b g2'
 rw [hsz] at a0 a1 e0 e1 hlt1 hlt2 ⊢
 have SF : Hid (∀ u, Below v.heap.size v u → (u.cell? ⟨sz, 0, none⟩ = some (.int .i32 r) ∧ u.cell? ⟨sz, 1, none⟩ = some (.slice As n cs)) ∧ (u.cell? ⟨sz + 1, 0, none⟩ = some (.int .i32 0) ∧ u.cell? ⟨sz + 1, 1, none⟩ = some (.slice none 0 0)) ∧ u.heap[sz + 1]? = some (.cells #[.int .i32 0, .slice none 0 0] 41 (0, 0))) := hid (fun u hu => by
  have q1 := (hu.block _ (by rw [← HSZ.out] at hlt1; exact hlt1)).trans HG1.out
  have q2 := (hu.block _ (by rw [← HSZ.out] at hlt2; exact hlt2)).trans HG2.out
  rw [HSZ.out] at q1 q2
  exact ⟨Z6P q1, Z6P q2, q2⟩)
 have hf0 : v.frozen? ⟨sz + 1, 0, none⟩ = false := Z0d (SF.out v (Below.refl _ _)).2.2 0
 clear G1 g2' hlt1 hlt2 y hsz
 go_region_law (first
  | (refine Z0E rfl 67 [.tmp 11, .tmp 12, .tmp 15] #[29, 24, 4] rfl Tryz.f67 (by kernel_rfl) (by kernel_rfl) (by kernel_rfl) [.pointer (some ⟨s, 0, none⟩), .slice Ap np cp, .bool (r == 10)] (by rfl) (Y4l s l (r == 10) Ap np cp p v.drew P.out (h2.ext (Z0v Y.out)) b2 (hS.ext (Z0v Y.out))) ?_
     rintro e w3 ⟨A3, k3, rfl, o3, y3⟩
     refine ⟨_, rfl, ?_⟩
     have O3 := hid o3
     have Y3 : Hid (Below v.heap.size v w3) := hid ((Z0v (Below.refl _ _)).trans y3)
     obtain ⟨⟨c0, c1⟩, ⟨c2, c3⟩, c4⟩ := SF.out w3 Y3.out
     clear o3 y3)
  | (refine Z0E rfl 247 [.tmp 10, .tmp 16] #[34, 24] rfl Tryz.f247 (by kernel_rfl) (by kernel_rfl) (by kernel_rfl) [.slice As n cs, .slice A3 (Z0T l (r == 10) p).length k3] (by rfl) (Y2q As A3 n (Z0T l (r == 10) p).length cs k3 set (Z0T l (r == 10) p) w3 N.out rfl (h1.ext (Z0a Y.out Y3.out)) (O3.out.rd Ch.enc_len) b1 (by have := BND.out; omega) g1 g2) ?_
     rw [HX.out]
     rintro e w4 ⟨A4, k4, rfl, o4, y4⟩
     refine ⟨_, rfl, ?_⟩
     have O4 := hid o4
     have Y4 : Hid (Below v.heap.size v w4) := hid (Z0a Y3.out y4)
     obtain ⟨⟨d0, d1⟩, ⟨d2, d3⟩, d4⟩ := SF.out w4 Y4.out
     have hf4 : w4.frozen? ⟨sz + 1, 0, none⟩ = false := Z0d d4 0
     have hf5 : w4.frozen? ⟨sz + 1, 1, none⟩ = false := Z0d d4 1
     clear o4 y4))
 all_goals
  go_wp2_with (fail)
  have q1 : ((w4.setCell ⟨sz + 1, 0, none⟩ (.int .i32 r)).setCell ⟨sz + 1, 1, none⟩ (.slice A4 X.length k4)).heap[sz + 1]? = some (.cells #[.int .i32 r, .slice A4 X.length k4] 41 (0, 0)) := by
   have h1 := Z0j (j := 0) d4 (.int .i32 r)
   have h2 := Z0j (j := 1) h1 (.slice A4 X.length k4)
   simpa using h2
  refine bodyPost_ret (results_cell_row (P := Tryz.prog) rfl _ _ (sz + 1) 41 #[.int .i32 r, .slice A4 X.length k4] (0, 0) _ rfl q1 Tryz.unCl rfl Tryz.szCl) rfl ?_
  have ha := (O4.out.base_le (B := w.heap.size) (by have := Y3.out.size; have := Y.out.size; omega))
  have hne : ∀ k, wb (.slice A4 X.length k4) = some k → k ≠ sz + 1 := fun k hk => by
   have := (O4.out.wb_lt k hk).1
   have := Z0b c4
   omega
  refine ⟨A4, k4, rfl, (ha.setCell (p := ⟨sz + 1, 0, none⟩) (fun e => hne _ e rfl) _).setCell (p := ⟨sz + 1, 1, none⟩) (fun e => hne _ e rfl) _, ?_⟩
  exact ((Z0a Y.out Y4.out).setCell (p := ⟨sz + 1, 0, none⟩) (by have := HSZ.out; simp only; omega) _).setCell (p := ⟨sz + 1, 1, none⟩) (by have := HSZ.out; simp only; omega) _
end Go.Proofs.YtnmedachaeanbaaGreatDoor
