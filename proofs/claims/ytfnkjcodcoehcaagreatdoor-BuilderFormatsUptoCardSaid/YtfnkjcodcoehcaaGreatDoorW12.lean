/- Merged texts: Mkr, DelPart, Part, CellNew, ApplyCell. -/
import Derived.Deep.RegionHeld3
import Derived.IntWalk
import Derived.Test.YtfnkjcodcoehcaaGreatDoorW11
import Derived.Test.YtfnkjcodcoehcaaGreatDoorW5
import Derived.Test.YtfnkjcodcoehcaaGreatDoorW8
import Derived.Test.YtfnkjcodcoehcaaGreatDoorW6
import Derived.Test.YtfnkjcodcoehcaaGreatDoorW9
import Derived.Test.YtfnkjcodcoehcaaGreatDoorW7
import Derived.Laws.Rows
namespace Go.Proofs.YtfnkjcodcoehcaaGreatDoor
open Go.RowKit
set_option linter.unusedVariables false
set_option linter.unusedSimpArgs false

def PartF (w : World) (F : Nat → Prop) (x : OpS) : Prop :=
  (RdI32 w w.heap.size x.Ar x.o.r ∧ OffF F x.Ar x.o.r.length) ∧ (RdAt w w.heap.size x.As x.o.s ∧ OffF F x.As x.o.s.length) ∧ (RdCh w w.heap.size x.Ap x.o.p ∧ OffF F x.Ap x.o.p.length)
theorem PartF.grow {w w' : World} {F G : Nat → Prop} {x : OpS} (h : PartF w F x) (g : Grow w F w' G) : PartF w' G x :=
  ⟨⟨h.1.1.grow g h.1.2, h.1.2.grow h.1.1 g⟩, ⟨h.2.1.1.grow g h.2.1.2, h.2.1.2.grow h.2.1.1 g⟩, ⟨h.2.2.1.grow g h.2.2.2, h.2.2.2.grow h.2.2.1 g⟩⟩
theorem PartF.less {w : World} {F G : Nat → Prop} {x : OpS} (h : PartF w F x) (hs : ∀ k, G k → F k) : PartF w G x :=
  ⟨⟨h.1.1, h.1.2.less hs⟩, ⟨h.2.1.1, h.2.1.2.less hs⟩, ⟨h.2.2.1, h.2.2.2.less hs⟩⟩
def LastF (w : World) (F : Nat → Prop) (b : Nat) (vd vi : Value) (x : OpS) : Prop :=
  OwI32 w 0 (.slice x.Ar x.o.r.length x.cr) x.o.r ∧ (∀ k, wb (.slice x.Ar x.o.r.length x.cr) = some k → F k ∧ k ≠ b ∧ wb vd ≠ some k ∧ wb vi ≠ some k) ∧
  (RdAt w w.heap.size x.As x.o.s ∧ OffF F x.As x.o.s.length) ∧ (RdCh w w.heap.size x.Ap x.o.p ∧ OffF F x.Ap x.o.p.length)
def InsF (w : World) (F : Nat → Prop) (b : Nat) (vd vi : Value) (I : List OpS) : Prop :=
  (∀ x ∈ I.dropLast, PartF w F x) ∧ ∀ x, I.getLast? = some x → LastF w F b vd vi x
def Mkr (w : World) (F : Nat → Prop) (b : Nat) (m : Mk) : Prop :=
  ∃ (vd vi : Value) (D I : List OpS), w.heap[b]? = some (.cells #[vd, vi, .int .i64 m.gone] 189 (0, 0)) ∧
    OwOs w 0 vd D ∧ OwOs w 0 vi I ∧ osOf D = m.done ∧ osOf I = m.ins ∧
    (∀ k, F k → k < w.heap.size) ∧ F b ∧ (∀ k, wb vd = some k → F k ∧ k ≠ b ∧ wb vi ≠ some k) ∧ (∀ k, wb vi = some k → F k ∧ k ≠ b) ∧
    (∀ x ∈ D, PartF w F x) ∧ InsF w F b vd vi I
theorem box_3 {w : World} {b : Nat} {t : TypeId} {c0 c1 c2 : Value} (h : w.heap[b]? = some (.cells #[c0, c1, c2] t (0, 0))) : w.cell? ⟨b, 0, none⟩ = some c0 ∧ w.cell? ⟨b, 1, none⟩ = some c1 ∧ w.cell? ⟨b, 2, none⟩ = some c2 := by
  simp [World.cell?, h]
theorem Mkr.lt {w : World} {F : Nat → Prop} {b : Nat} {m : Mk} (h : Mkr w F b m) : ∀ k, F k → k < w.heap.size := by
  obtain ⟨_, _, _, _, _, _, _, _, _, h1, _⟩ := h; exact h1
theorem Mkr.below {w w' : World} {F : Nat → Prop} {b : Nat} {m : Mk} (h : Mkr w F b m) (y : Below w.heap.size w w') : Mkr w' F b m := by
  obtain ⟨vd, vi, D, I, h1, h2, h3, h4, h5, h6, h7, h8, h9, h10, h11, h12⟩ := h
  have g := Grow.of (F := F) y
  refine ⟨vd, vi, D, I, (y.block b (lt_of_some h1)).trans h1, h2.below y (Nat.le_refl _), h3.below y (Nat.le_refl _), h4, h5, fun k hk => Nat.lt_of_lt_of_le (h6 k hk) y.size, h7, h8, h9, fun x hx => (h10 x hx).grow g, fun x hx => (h11 x hx).grow g, fun x hx => ?_⟩
  obtain ⟨e1, e2, e3, e4⟩ := h12 x hx
  exact ⟨e1.below y (Nat.le_refl _), e2, ⟨e3.1.grow g e3.2, e3.2.grow e3.1 g⟩, ⟨e4.1.grow g e4.2, e4.2.grow e4.1 g⟩⟩

set_option maxHeartbeats 800000 in
theorem mkNew_any (w : World) : Calls Tryz.prog 74 #[] w fun e w' => e = .returned (.pointer (some ⟨w.heap.size, 0, none⟩)) ∧ Mkr w' (fun k => k = w.heap.size) w.heap.size Mk.new ∧ Below w.heap.size w w' := by
  have y := ext_alloc w (.cells #[.slice none 0 0, .slice none 0 0, .int .i64 0] 189)
  have hb := heap_alloc_new w (.cells #[.slice none 0 0, .slice none 0 0, .int .i64 0] 189)
  have HB := Lib.hid hb
  clear hb
  go_enter Tryz.func74, Tryz.ntmps74
  go_wp2_with (fail)
  go_ret
  refine ⟨rfl, ⟨.slice none 0 0, .slice none 0 0, [], [], HB.out, Ow.nil _ _, Ow.nil _ _, rfl, rfl, fun k hk => (by subst hk; simp), rfl, fun k hk => (by cases hk), fun k hk => (by cases hk), fun x hx => (by cases hx), fun x hx => (by cases hx), fun x hx => (by cases hx)⟩, y⟩

theorem setCell_below {w : World} (b j : Nat) (u : Value) {F : Nat → Prop} (hF : F b) (t : TypeId) : Grow w F (w.setCell ⟨b, j, none⟩ u) F :=
  ⟨rfl, rfl, rfl, by simp [World.setCell], fun k _ hk => Below.heap_setCell w ⟨b, j, none⟩ u k (fun e => hk (e ▸ hF)), fun k h => .inl h⟩
def MkOut (m : Mk) (w : World) (F : Nat → Prop) (b : Nat) (e : Ending) (w' : World) : Prop :=
  e = .returned (.tuple #[]) ∧ ∃ F', Mkr w' F' b m ∧ Grow w F w' F'
theorem owOs_set {w : World} {v : Value} {l : List OpS} (h : OwOs w 0 v l) {b j : Nat} (hp : ∀ k, wb v = some k → k ≠ b) (u : Value) : OwOs (w.setCell ⟨b, j, none⟩ u) 0 v l :=
  h.setCell (p := ⟨b, j, none⟩) (fun e => hp b e rfl) u
theorem Mkr.setGone {w : World} {F : Nat → Prop} {b : Nat} {m : Mk} (h : Mkr w F b m) (g : Int) : Mkr (w.setCell ⟨b, 2, none⟩ (.int .i64 g)) F b { m with gone := g } := by
  obtain ⟨vd, vi, D, I, h1, h2, h3, h4, h5, h6, h7, h8, h9, h10, h11, h12⟩ := h
  have gr := setCell_below (w := w) b 2 (.int .i64 g) h7 0
  refine ⟨vd, vi, D, I, ?_, owOs_set h2 (fun k hk => (h8 k hk).2.1) _, owOs_set h3 (fun k hk => (h9 k hk).2) _, h4, h5, fun k hk => Nat.lt_of_lt_of_le (h6 k hk) gr.size, h7, h8, h9, fun x hx => (h10 x hx).grow gr, fun x hx => (h11 x hx).grow gr, fun x hx => ?_⟩
  · rw [heap_setCell_self h1]; rfl
  · obtain ⟨e1, e2, e3, e4⟩ := h12 x hx
    exact ⟨e1.setCell (p := ⟨b, 2, none⟩) (fun e => (e2 b e).2.1 rfl) _, e2, ⟨e3.1.grow gr e3.2, e3.2.grow e3.1 gr⟩, ⟨e4.1.grow gr e4.2, e4.2.grow e4.1 gr⟩⟩
theorem Mkr.box {w : World} {F : Nat → Prop} {b : Nat} {m : Mk} (h : Mkr w F b m) : ∃ vd vi : Value, w.heap[b]? = some (.cells #[vd, vi, .int .i64 m.gone] 189 (0, 0)) ∧ F b := by
  obtain ⟨vd, vi, _, _, h1, _, _, _, _, _, h7, _⟩ := h
  exact ⟨vd, vi, h1, h7⟩
theorem box_thaw {w : World} {b : Nat} {cs : Array Value} {t : TypeId} (h : w.heap[b]? = some (.cells cs t (0, 0))) (j : Nat) : w.frozen? ⟨b, j, none⟩ = false := by simp [World.frozen?, h]

set_option maxHeartbeats 800000 in
theorem mkDelete_any (b : Nat) (n : Int) (w : World) (F : Nat → Prop) (m : Mk) (h : Mkr w F b m) :
    Calls Tryz.prog 82 #[.pointer (some ⟨b, 0, none⟩), .int .i64 n] w (MkOut (mkDelete m n) w F b) := by
  obtain ⟨vd, vi, h1, h7⟩ := h.box
  obtain ⟨W, hW⟩ : ∃ X, IntKind.i64.wrap (m.gone + (if n < 0 then 0 else n)) = X := ⟨_, rfl⟩
  have hs := h.setGone W
  have hm : ({ m with gone := W } : Mk) = mkDelete m n := by unfold mkDelete; rw [hW]
  rw [hm] at hs
  have gr := setCell_below (w := w) b 2 (.int .i64 W) h7 0
  have HS := Lib.hid hs
  have HW := Lib.hid hW
  obtain ⟨c0, c1, c2⟩ := box_3 h1
  have hf := box_thaw h1 2
  have hlt := lt_of_some h1
  generalize hg : m.gone = g at *
  clear hm hs hW h1 h
  have e : Hid (wrap64 (g + max n 0) = W) := Lib.hid (by
    have e0 : g + max n 0 = g + (if n < 0 then 0 else n) := by split <;> omega
    rw [e0, ← HW.out, IntWalk.i64_left])
  go_enter Tryz.func82, Tryz.ntmps82
  go_wp2_with (fail)
  refine bodyPost_ret (results_none rfl _ _ _) rfl ?_
  rw [e.out]
  exact ⟨rfl, F, HS.out, gr⟩

set_option maxRecDepth 100000 in
set_option maxHeartbeats 400000 in
theorem indexPart_any (b1 b2 : Nat) (pr : Ch → Bool) (A : Option Addr) (n c : Nat) (l : List Ch) (w : World) (hn : n = l.length) (h : RdCh w w.heap.size A l) (hb : n ≤ 140737488355328)
    (hcl : ∀ (x1 x2 x3 x4 : Int) (x6 : Bool) (x5 : ByteArray) (w' : World), Below w.heap.size w w' → Calls Tryz.prog 169 #[.agg #[.int .i64 x1, .bool x6, .int .u8 x2, .int .i64 x3, .int .u64 x4, .string x5], .pointer (some ⟨b1, 0, none⟩), .pointer (some ⟨b2, 0, none⟩)] w' fun e w'' => e = .returned (.bool (pr ⟨x1, x6, ⟨x2, x3, x4, x5⟩⟩)) ∧ Below w'.heap.size w' w'') :
    Calls Tryz.prog 211 #[.slice A n c, .func (.func 169) #[] #[.pointer (some ⟨b1, 0, none⟩), .pointer (some ⟨b2, 0, none⟩)]] w fun e w' => ∃ i : Int, e = .returned (.int .i64 i) ∧ IdxOut pr l i ∧ Below w.heap.size w w' := by
  have N := Lib.hid hn
  have HCL := Lib.hid hcl
  clear hn hcl
  go_enter Tryz.func211, Tryz.ntmps211
  go_wp2_with (fail)
  go_loopg [8] n (fun g iv wr => ∃ i : Nat, i ≤ n ∧ g = n - i ∧ iv = .int .i64 i ∧ Below w.heap.size w wr ∧ Hid (∀ x ∈ l.take i, pr x = false))
  case atStart => exact ⟨0, by omega, rfl, rfl, Below.refl _ _, Lib.hid (by simp)⟩
  case round =>
    obtain ⟨i, hi, hg, rfl, hbw, HI⟩ := hrel
    have HG := Lib.hid hg
    clear hg
    by_cases hlt : i < n
    · have hil : i < l.length := by have := N.out; omega
      obtain ⟨ad, x, rfl, _, _, hx, hc1⟩ := (h.below hbw (Nat.le_refl _)).el hil
      have HT : Hid (l.take (i + 1) = l.take i ++ [x]) := Lib.hid (by rw [List.take_add_one, hx]; rfl)
      have HX := Lib.hid hx
      clear hx hil
      obtain ⟨x1, x6, x2, x3, x4, x5⟩ := x
      obtain ⟨r0, r1, r2, r3, r4, r5⟩ := ch_cells hc1
      clear hc1
      by_cases hp : pr ⟨x1, x6, ⟨x2, x3, x4, x5⟩⟩ = true
      · go_wp2_with (go_at_call 169; refine (HCL.out _ _ _ _ _ _ _ hbw).mono ?_; rintro e w' ⟨rfl, hb'⟩)
        go_ret
        exact ⟨i, rfl, .inr ⟨i, rfl, by have := N.out; omega, HI.out, _, HX.out, hp⟩, hbw.trans (hb'.mono hbw.size)⟩
      · have hp' : pr ⟨x1, x6, ⟨x2, x3, x4, x5⟩⟩ = false := by simpa using hp
        clear hp
        go_wp2_with (go_at_call 169; refine (HCL.out _ _ _ _ _ _ _ hbw).mono ?_; rintro e w' ⟨rfl, hb'⟩)
        have hbw' := hbw.trans (hb'.mono hbw.size)
        go_roundg (n - (i + 1))
        case measure => have := HG.out; omega
        case rel =>
          refine ⟨i + 1, by omega, rfl, by go_num, hbw', Lib.hid ?_⟩
          intro y hy
          rw [HT.out] at hy
          rcases List.mem_append.1 hy with hy | hy
          · exact HI.out y hy
          · simp at hy; rw [hy]; exact hp'
    · go_wp2_with (fail)
      go_ret
      refine ⟨-1, rfl, .inl ⟨rfl, ?_⟩, hbw⟩
      have h1 := HI.out
      rw [List.take_of_length_le (by have := N.out; omega)] at h1
      exact h1

set_option maxRecDepth 100000 in
set_option maxHeartbeats 1000000 in
theorem deletePart_any (b1 b2 : Nat) (pr : Ch → Bool) (A : Option Addr) (n c base : Nat) (l : List Ch) (w : World) (hown : OwCh w base (.slice A n c) l) (hbase : base ≤ w.heap.size) (hb : n ≤ 100000000) (hn : n = l.length)
    (hcl : ∀ (x1 x2 x3 x4 : Int) (x6 : Bool) (x5 : ByteArray) (w' : World), Below base w w' → Calls Tryz.prog 169 #[.agg #[.int .i64 x1, .bool x6, .int .u8 x2, .int .i64 x3, .int .u64 x4, .string x5], .pointer (some ⟨b1, 0, none⟩), .pointer (some ⟨b2, 0, none⟩)] w' fun e w'' => e = .returned (.bool (pr ⟨x1, x6, ⟨x2, x3, x4, x5⟩⟩)) ∧ Below w'.heap.size w' w'') :
    Calls Tryz.prog 167 #[.slice A n c, .func (.func 169) #[] #[.pointer (some ⟨b1, 0, none⟩), .pointer (some ⟨b2, 0, none⟩)]] w fun e w' =>
      ∃ A' c', e = .returned (.slice A' (l.filter (fun x => !pr x)).length c') ∧ OwCh w' base (.slice A' (l.filter (fun x => !pr x)).length c') (l.filter (fun x => !pr x)) ∧ Below base w w' := by
  have N := Lib.hid hn
  have HCL := Lib.hid hcl
  have hcap := hown.cap
  have hlc : n ≤ c := by rw [hn]; exact hcap.1
  have hcm : c ≤ 2 ^ 63 - 1 := hcap.2
  clear hn hcl hcap
  generalize hR : l.filter (fun x => !pr x) = R
  have HR := Lib.hid hR
  clear hR
  go_enter Tryz.func167, Tryz.ntmps167
  go_wp2_with (go_at_call 211; refine Hid.out ?_)
  refine Lib.hid ?_
  refine (indexPart_any b1 b2 pr A n c l w N.out (hown.rd Ch.enc_len) (by omega) (fun x1 x2 x3 x4 x6 x5 w' hb' => HCL.out x1 x2 x3 x4 x6 x5 w' (hb'.mono hbase))).mono ?_
  rintro e w1 ⟨ix, rfl, hix, hb1⟩
  have hbw1 : Below base w w1 := hb1.mono hbase
  have hown1 := hown.below hb1 (Nat.le_refl _)
  have hbase1 : base ≤ w1.heap.size := Nat.le_trans hbase hb1.size
  clear hown hb1
  rcases hix with ⟨rfl, hall⟩ | ⟨i0, rfl, hi0, hpre, x0, hx0, hpx0⟩
  · have hRl : R = l := by
      rw [← HR.out]
      exact List.filter_eq_self.2 (fun x hx => by simp [hall x hx])
    have HRL := Lib.hid hRl
    clear hRl hall
    go_wp2_with (fail)
    go_ret
    refine ⟨A, c, ?_, ?_, hbw1⟩
    · rw [HRL.out, ← N.out]; rfl
    · rw [HRL.out, ← N.out]; exact hown1
  · have hne : ((i0 : Int) == -1) = false := beq_eq_false_iff_ne.2 (by omega)
    have hi0n : i0 < n := by rw [N.out]; exact hi0
    have hst : Hid (l.take i0 = (l.take (i0 + 1)).filter (fun x => !pr x)) := Lib.hid (by
      rw [List.take_add_one, hx0, List.filter_append, List.filter_eq_self.2 (fun x hx => by simp [hpre x hx])]
      simp [hpx0])
    clear hpre hx0 hpx0 hi0
    go_wp2_with (fail)
    go_loopg [5, 6] (n - (i0 + 1)) (fun g iv jv wr => ∃ (i j : Nat) (m : List Ch), i < j ∧ j ≤ n ∧ g = n - j ∧ iv = .int .i64 i ∧ jv = .int .i64 j ∧ OwCh wr base (.slice A n c) m ∧ base ≤ wr.heap.size ∧ Below base w wr ∧
      Hid (m.length = n ∧ m.drop j = l.drop j ∧ m.take i = (l.take j).filter (fun x => !pr x)))
    case atStart => exact ⟨i0, i0 + 1, l, by omega, by omega, rfl, rfl, by go_num, hown1, hbase1, hbw1, Lib.hid ⟨N.out.symm, rfl, hst.out⟩⟩
    case round =>
      clear hown1 hbase1 hbw1 hst hne hi0n
      obtain ⟨i, j, m, hij, hj, hg, rfl, rfl, hown, hbs, hbw, HI⟩ := hrel
      have HG := Lib.hid hg
      clear hg
      by_cases hlt : j < n
      · have hjm : j < m.length := by have := HI.out.1; omega
        obtain ⟨ad, x, rfl, _, hdm, hx, hc1⟩ := (hown.rd Ch.enc_len).el hjm
        have HX : Hid (l.take (j + 1) = l.take j ++ [x] ∧ m.drop (j + 1) = l.drop (j + 1)) := Lib.hid (by
          obtain ⟨h1, h2, h3⟩ := HI.out
          have h4 : l[j]? = some x := by
            have := congrArg (fun t => t[0]?) h2
            simp only [List.getElem?_drop, Nat.add_zero] at this
            rw [← this, hx]
          refine ⟨by rw [List.take_add_one, h4]; rfl, ?_⟩
          have := congrArg (fun t => t.drop 1) h2
          simpa [List.drop_drop] using this)
        clear hdm hx hjm
        obtain ⟨x1, x6, x2, x3, x4, x5⟩ := x
        obtain ⟨r0, r1, r2, r3, r4, r5⟩ := ch_cells hc1
        clear hc1
        have hbx0 := heap_alloc_new wr (.cells #[.int .i64 x1, .bool x6, .int .u8 x2, .int .i64 x3, .int .u64 x4, .string x5] 77)
        have hbwA := hbw.alloc hbs (.cells #[.int .i64 x1, .bool x6, .int .u8 x2, .int .i64 x3, .int .u64 x4, .string x5] 77)
        have hownA := hown.alloc (.cells #[.int .i64 x1, .bool x6, .int .u8 x2, .int .i64 x3, .int .u64 x4, .string x5] 77)
        have hsz := size_alloc' wr (.cells #[.int .i64 x1, .bool x6, .int .u8 x2, .int .i64 x3, .int .u64 x4, .string x5] 77)
        have hwbA : ∀ k, wb (.slice (some ad) n c) = some k → k < wr.heap.size := fun k hk => (hown.wb_lt k hk).2
        by_cases hp : pr ⟨x1, x6, ⟨x2, x3, x4, x5⟩⟩ = true
        · have HBX0 := Lib.hid hbx0
          have HWB := Lib.hid hwbA
          have HSZ := Lib.hid hsz
          clear hbx0 hwbA hsz
          go_wp2_with (go_at_call 169; refine (HCL.out _ _ _ _ _ _ _ hbwA).mono ?_; rintro e w2 ⟨rfl, hb2⟩)
          have hbw2 : Below base w w2 := hbwA.trans (hb2.mono (by rw [← HSZ.out]; omega))
          have hown2 := hownA.below hb2 (Nat.le_refl _)
          have hbs2 : base ≤ w2.heap.size := by have := hb2.size; rw [← HSZ.out] at this; omega
          go_roundg (n - (j + 1))
          case measure => have := HG.out; omega
          case rel =>
            obtain ⟨h1, h2, h3⟩ := HI.out
            obtain ⟨h4, h5⟩ := HX.out
            exact ⟨i, j + 1, m, by omega, by omega, rfl, rfl, by go_num, hown2, hbs2, hbw2, Lib.hid ⟨h1, h5, by rw [h4, List.filter_append, h3]; simp [hp]⟩⟩
        · have hp' : pr ⟨x1, x6, ⟨x2, x3, x4, x5⟩⟩ = false := by simpa using hp
          clear hp
          have HBX0 := Lib.hid hbx0
          have HWB := Lib.hid hwbA
          have HSZ := Lib.hid hsz
          clear hbx0 hwbA hsz
          go_wp2_with (go_at_call 169; refine Hid.out ?_)
          refine Lib.hid ?_
          refine (HCL.out _ _ _ _ _ _ _ hbwA).mono ?_
          rintro e w2 ⟨rfl, hb2⟩
          have hbw2 : Below base w w2 := hbwA.trans (hb2.mono (by rw [← HSZ.out]; omega))
          have hown2 := hownA.below hb2 (Nat.le_refl _)
          have hbs2 : base ≤ w2.heap.size := by have := hb2.size; rw [← HSZ.out] at this; omega
          have hbx2 := (hb2.block wr.heap.size (by rw [← HSZ.out]; omega)).trans HBX0.out
          obtain ⟨b0, b1, b2, b3, b4, b5⟩ := box_ch hbx2
          have him : i < m.length := by have := HI.out.1; omega
          have hin : i < n := by omega
          clear hbx2
          obtain ⟨i1, hi1, hz1, hz2, hz3⟩ := info_parts Tryz.infoCh
          have I1 := Lib.hid hi1
          have Z2 := Lib.hid hz2
          clear hi1 hz1 hz2 hz3 hownA hbwA
          go_wp2_with (refine wpList_set_own rfl 77 (.tmp 33) (.tmp 32) rfl rfl i1 I1.out Z2.out Ch.enc_len Ch.enc_one hown2 him ⟨x1, x6, ⟨x2, x3, x4, x5⟩⟩ (cs := #[.int .i64 x1, .bool x6, .int .u8 x2, .int .i64 x3, .int .u64 x4, .string x5]) rfl (p := ad.add (i * 6)) rfl rfl rfl ?_; intro w3 hown3 hg3)
          have hbw3 : Below base w w3 := hbw2.grown hg3 hbs2 (fun k hk => (hown2.wb_lt k hk).1)
          have hbs3 : base ≤ w3.heap.size := Nat.le_trans hbs2 hg3.size
          go_roundg (n - (j + 1))
          case measure => have := HG.out; omega
          case rel =>
            obtain ⟨h1, h2, h3⟩ := HI.out
            obtain ⟨h4, h5⟩ := HX.out
            refine ⟨i + 1, j + 1, m.set i ⟨x1, x6, ⟨x2, x3, x4, x5⟩⟩, by omega, by omega, rfl, by go_num, by go_num, hown3, hbs3, hbw3, Lib.hid ⟨by rw [List.length_set]; exact h1, by rw [List.drop_set_of_lt (by omega)]; exact h5, ?_⟩⟩
            rw [h4, List.filter_append, List.take_add_one, List.getElem?_set_self him, List.take_set_of_le (Nat.le_refl i), h3]
            simp [hp']
      · have hjn : j = n := by omega
        have hm0 := HI.out
        obtain ⟨i1, hi1, hz1, hz2, hz3⟩ := info_parts Tryz.infoCh
        have I1 := Lib.hid hi1
        have Z1 := Lib.hid hz1
        have hmR : m.take i = R := by
          obtain ⟨h1, h2, h3⟩ := hm0
          rw [h3, ← HR.out, List.take_of_length_le (by have := N.out; omega)]
        have him : i ≤ m.length := by have := hm0.1; omega
        have hiR : i = R.length := by rw [← hmR, List.length_take, Nat.min_eq_left him]
        have HIR := Lib.hid hiR
        have HMR := Lib.hid hmR
        have HML : Hid (m.length = n) := Lib.hid hm0.1
        clear hi1 hz1 hz2 hz3 hmR hiR hm0 hjn
        rcases Nat.lt_or_ge i c with hci | hci
        · have hne : ¬ c = i := by omega
          go_wp2_with (refine wpList_clear_own (i := i) (X := A.map (fun x => x.add (i * 6))) rfl (.tmp 38) _ rfl rfl Tryz.slCh i1 _ I1.out Z1.out rfl (by intro u hu; exact Ch.enc_one ⟨0, false, V.zero⟩ u hu) Ch.enc_len hown him (by exact .inr rfl) (by rw [HML.out]) rfl ?_; intro w3 hown3 hg3)
          have hbw3 : Below base w w3 := hbw.grown hg3 hbs (fun k hk => (hown.wb_lt k hk).1)
          rw [HMR.out] at hown3
          have hri := HIR.out
          subst hri
          go_ret
          exact ⟨A, c, rfl, hown3, hbw3⟩
        · go_wp2_with (refine wpList_clear_own (i := i) (X := A) rfl (.tmp 38) _ rfl rfl Tryz.slCh i1 _ I1.out Z1.out rfl (by intro u hu; exact Ch.enc_one ⟨0, false, V.zero⟩ u hu) Ch.enc_len hown him (by have := HML.out; left; omega) (by rw [HML.out]) rfl ?_; intro w3 hown3 hg3)
          have hbw3 : Below base w w3 := hbw.grown hg3 hbs (fun k hk => (hown.wb_lt k hk).1)
          rw [HMR.out] at hown3
          have hri := HIR.out
          subst hri
          go_ret
          exact ⟨A, c, rfl, hown3, hbw3⟩

set_option maxHeartbeats 1600000 in
theorem partCl_any (s b1 b2 : Nat) (l : List Ky) (b : Bool) (x1 x2 x3 x4 : Int) (x6 : Bool) (x5 : ByteArray) (w : World) (hS : Sch w s l)
    (h1 : w.heap[b1]? = some (.cells #[.pointer (some ⟨s, 0, none⟩)] 26 (0, 0))) (h2 : w.heap[b2]? = some (.cells #[.bool b] 4 (0, 0))) :
    Calls Tryz.prog 169 #[.agg #[.int .i64 x1, .bool x6, .int .u8 x2, .int .i64 x3, .int .u64 x4, .string x5], .pointer (some ⟨b1, 0, none⟩), .pointer (some ⟨b2, 0, none⟩)] w fun e w' => e = .returned (.bool (!keepK l b x1)) ∧ Below w.heap.size w w' := by
  have y0 := ext_alloc w (.cells #[.int .i64 x1, .bool x6, .int .u8 x2, .int .i64 x3, .int .u64 x4, .string x5] 77)
  have c1 := box_1 ((y0.block b1 (lt_of_some h1)).trans h1)
  have g2 := (y0.block b2 (lt_of_some h2)).trans h2
  have HS := Lib.hid (hS.ext y0)
  have G2 := Lib.hid g2
  clear g2 hS
  go_enter Tryz.func169, Tryz.ntmps169
  go_wp2_with (go_at_call 62; refine Hid.out ?_)
  refine Lib.hid ?_
  generalize hw0 : w.alloc _ = w0 at *
  clear hw0
  refine (findS_any s l x1 w0 HS.out).mono ?_
  rintro e w1 ⟨i, c, kd, d, g, q, ok, rfl, hk, hb, y1⟩
  have y2 := ext_alloc w1 (.cells #[.int .i64 i, .bool c, .int .u8 kd, .bool d, .bool g, .int .i64 q] 97)
  have g3 := (y1.block b2 (lt_of_some G2.out)).trans G2.out
  have c2 := box_1 ((y2.block b2 (lt_of_some g3)).trans g3)
  have yy := ext_trans y0 (ext_trans y1 y2)
  have HB := Lib.hid hb
  have HK := Lib.hid hk
  clear g3 hk hb
  cases ok with
  | false =>
    have HE : Hid (keepK l b x1 = false) := Lib.hid (by
      have h := HB.out
      unfold keepK
      cases hq : findK l x1 with
      | none => rfl
      | some k => rw [hq] at h; cases h)
    go_wp2_with (fail)
    go_ret
    exact ⟨ret_bool (by rw [HE.out]; rfl), yy⟩
  | true =>
    have HE : Hid (keepK l b x1 = (c == b)) := Lib.hid (by
      have h := HB.out
      have h2 := HK.out
      unfold keepK
      cases hq : findK l x1 with
      | none => rw [hq] at h; cases h
      | some k => rw [hq] at h2; simp at h2; subst h2; rfl)
    go_wp2_with (fail)
    go_ret
    exact ⟨ret_bool (by rw [HE.out] <;> (cases c <;> cases b <;> rfl)), yy⟩

set_option maxRecDepth 100000 in
set_option maxHeartbeats 1600000 in
theorem part_any (s : Nat) (l : List Ky) (b : Bool) (A : Option Addr) (n c : Nat) (p : List Ch) (w : World) (hn : n = p.length) (h : RdCh w w.heap.size A p) (hb : n ≤ 100000000) (hS : Sch w s l) :
    Calls Tryz.prog 94 #[.pointer (some ⟨s, 0, none⟩), .slice A n c, .bool b] w (NewCh (partP l b p) w) := by
  have N := Lib.hid hn
  have ya := ext_alloc w (.cells #[.pointer (some ⟨s, 0, none⟩)] 26)
  have yb := ext_alloc (w.alloc (.cells #[.pointer (some ⟨s, 0, none⟩)] 26)) (.cells #[.bool b] 4)
  have g1 := heap_alloc_new w (.cells #[.pointer (some ⟨s, 0, none⟩)] 26)
  have g2 := heap_alloc_new (w.alloc (.cells #[.pointer (some ⟨s, 0, none⟩)] 26)) (.cells #[.bool b] 4)
  have G1 := Lib.hid ((yb.block w.heap.size (by simp)).trans g1)
  rw [World.size_alloc] at g2
  have G2 := Lib.hid g2
  have y := ext_trans ya yb
  have hh := h.ext y
  have HS := Lib.hid (hS.ext y)
  clear hn g1 g2 ya yb h hS
  go_enter Tryz.func94, Tryz.ntmps94
  go_wp2_with (go_at_call 168; refine Hid.out ?_)
  refine Lib.hid ?_
  refine (cloneCh_any A n c p _ N.out hh hb).mono ?_
  rintro e w1 ⟨A', c', rfl, hown, y1⟩
  have HOW := Lib.hid hown
  have hsz2 : ((w.alloc (.cells #[.pointer (some ⟨s, 0, none⟩)] 26)).alloc (.cells #[.bool b] 4)).heap.size = w.heap.size + 2 := by simp
  have G1' := Lib.hid ((y1.block w.heap.size (by rw [hsz2]; omega)).trans G1.out)
  have G2' := Lib.hid ((y1.block (w.heap.size + 1) (by rw [hsz2]; omega)).trans G2.out)
  have hb1 : w.heap.size + 2 ≤ w1.heap.size := by have := y1.size; omega
  have HSZ := Lib.hid hsz2
  clear hown hsz2
  go_wp2_with (go_at_call 167; refine Hid.out ?_)
  refine Lib.hid ?_
  refine (deletePart_any w.heap.size (w.heap.size + 1) (fun c => !keepK l b c.key) A' p.length c' _ p w1 HOW.out (by rw [HSZ.out]; exact hb1) (by have := N.out; omega) rfl ?cl).mono ?_
  case cl =>
    intro x1 x2 x3 x4 x6 x5 w' hb'
    refine partCl_any s _ _ l b x1 x2 x3 x4 x6 x5 w' (HS.out.ext (y1.trans hb')) ?_ ?_
    · exact (hb'.block _ (by rw [HSZ.out]; omega)).trans G1'.out
    · exact (hb'.block _ (by rw [HSZ.out]; omega)).trans G2'.out
  rintro e w2 ⟨A2, c2, rfl, hown2, y2⟩
  have yy : Below w.heap.size w w2 := ext_trans y (y1.trans y2)
  have hf : p.filter (fun x => !!keepK l b x.key) = partP l b p := by simp [partP]
  rw [hf] at hown2 ⊢
  have HO2 := Lib.hid (hown2.base_le (B := w.heap.size) (by rw [HSZ.out]; omega))
  clear hown2 hf
  go_wp2_with (fail)
  go_ret
  exact ⟨A2, c2, rfl, HO2.out, yy⟩

def PartC (w : World) (B : Nat) (v : Value) (x : ClS) : Prop :=
  OwAt w B (.slice x.As x.c.s.length x.cs) x.c.s ∧ ∀ k, wb (.slice x.As x.c.s.length x.cs) = some k → wb v ≠ some k
theorem PartC.below {w w' : World} {B : Nat} {v : Value} {x : ClS} (h : PartC w B v x) (y : Below w.heap.size w w') : PartC w' B v x := ⟨h.1.below y (Nat.le_refl _), h.2⟩
theorem PartC.base_le {w : World} {B B' : Nat} {v : Value} {x : ClS} (h : PartC w B v x) (hb : B' ≤ B) : PartC w B' v x := ⟨h.1.base_le hb, h.2⟩
theorem PartC.app {w w' : World} {B : Nat} {v v' : Value} {x : ClS} (h : PartC w B v x) (hg : w.grownBy w' (wb v)) (hv : v' = v ∧ w' = w ∨ wb v' = wb v ∨ wb v' = some w.heap.size) : PartC w' B v' x := by
  refine ⟨h.1.keep fun k hk => hg.block k (h.1.wb_lt k hk).2 (fun e => h.2 k hk e.symm), fun k hk => ?_⟩
  have hlt := (h.1.wb_lt k hk).2
  rcases hv with ⟨rfl, _⟩ | hv | hv
  · exact h.2 k hk
  · rw [hv]; exact h.2 k hk
  · rw [hv]; intro e; injection e with e; omega
theorem PartC.set {w : World} {B g n c j : Nat} {u : Value} {x : ClS} (h : PartC w B (.slice (some ⟨g, 0, none⟩) n (c + 1)) x) : PartC (w.setCell ⟨g, j, none⟩ u) B (.slice (some ⟨g, 0, none⟩) n (c + 1)) x :=
  ⟨h.1.setCell (p := ⟨g, j, none⟩) (fun e => h.2 g e rfl) u, h.2⟩
def NewCls (o : List Cl) (w : World) (e : Ending) (w' : World) : Prop :=
  ∃ A c l, e = .returned (.slice A l.length c) ∧ clsOf l = o ∧ OwCs w' w.heap.size (.slice A l.length c) l ∧ (∀ x ∈ l, PartC w' w.heap.size (.slice A l.length c) x) ∧ Below w.heap.size w w'

set_option maxRecDepth 100000 in
set_option maxHeartbeats 1600000 in
theorem cellsOf_any (A1 A2 : Option Addr) (n1 n2 c1 c2 : Nat) (l : List Int) (s : List At) (w : World) (hn1 : n1 = l.length) (hn2 : n2 = s.length) (h1 : RdI32 w w.heap.size A1 l) (h2 : RdAt w w.heap.size A2 s) (b1 : n1 ≤ 100000000) (b2 : n2 ≤ 100000000) :
    Calls Tryz.prog 165 #[.slice A1 n1 c1, .slice A2 n2 c2] w (NewCls (l.map (fun r => ⟨r, s⟩)) w) := by
  have N1 := Lib.hid hn1
  have N2 := Lib.hid hn2
  have H1 := Lib.hid h1
  have H2 := Lib.hid h2
  clear hn1 hn2 h1 h2
  go_enter Tryz.func165, Tryz.ntmps165
  go_wp2_with (fail)
  go_loopg [5, 10] n1 (fun g v iv wr => ∃ (i : Nat) (L : List ClS), i ≤ n1 ∧ g = n1 - i ∧ iv = .int .i64 (i : Int) ∧ clsOf L = (l.take i).map (fun r => ⟨r, s⟩) ∧ OwCs wr w.heap.size v L ∧ (∀ x ∈ L, PartC wr w.heap.size v x) ∧ Below w.heap.size w wr)
  case atStart => exact ⟨0, [], by omega, rfl, rfl, rfl, Ow.nil _ _, fun x hx => (by cases hx), Below.refl _ _⟩
  case round =>
    obtain ⟨i, L, hi, hg, rfl, hL, ho, hp, y⟩ := hrel
    have HG := Lib.hid hg
    have HO := Lib.hid ho
    have HP := Lib.hid hp
    have HL := Lib.hid hL
    have LN : Hid (L.length = i) := Lib.hid (by have := congrArg List.length hL; rw [clsOf_len] at this; simp at this; have := N1.out; omega)
    clear hg ho hp hL
    by_cases hlt : i < n1
    · have hl1 : i < l.length := by have := N1.out; omega
      obtain ⟨ad, r, rfl, _, _, hx1, hc1⟩ := (H1.out.ext y).el hl1
      have E := Lib.hid (show (l.take (i + 1)).map (fun r => (⟨r, s⟩ : Cl)) = (l.take i).map (fun r => ⟨r, s⟩) ++ [⟨r, s⟩] by rw [List.take_add_one, hx1]; simp)
      have z0 : wr.cell? (ad.add (i * 1)) = some (.int .i32 r) := by have := hc1 0 _ rfl; rwa [add_zero'] at this
      rw [Nat.mul_one] at z0
      have hw2 : IntKind.i64.wrap ((i:Int) + 1) = (i : Int) + 1 := IntWalk.i64_in _ (by omega)
      clear hx1 hc1 hl1
      go_wp2_with (first
        | (go_at_call 143; refine (copy_any A2 n2 c2 s _ N2.out (H2.out.ext y) b2).mono ?_; rintro e w1 ⟨A3, k3, rfl, o3, y3⟩; have O3 := Lib.hid o3; have Y3 := Lib.hid y3; clear o3 y3)
        | (at_builtin; refine app_cs (m := [⟨⟨r, s⟩, A3, k3⟩]) rfl (.tmp 14) (.tmp 19) rfl rfl (by exact (HO.out.below Y3.out (Nat.le_refl _)).alloc _) _ _ 1 1 rfl rfl (by exact rd_one_at (enc := ClS.enc) (size := 2) _ _ ⟨⟨r, s⟩, A3, k3⟩ rfl (by simp)) (by have := LN.out; simp only [List.length_singleton]; omega) (by have := y.size; have := Y3.out.size; simp at *; omega) ?_; intro v' w' hown' hgr hv'))
      have yz := ext_trans y Y3.out
      have yw := below_app (yz.alloc yz.size _) (by have := yz.size; simp at this ⊢; omega) ((HO.out.below Y3.out (Nat.le_refl _)).alloc _) (Nat.le_refl _) hgr
      have hP' : ∀ x ∈ L ++ [(⟨⟨r, s⟩, A3, k3⟩ : ClS)], PartC w' w.heap.size v' x := fun x hx => by
        have ho0 := HO.out
        rcases List.mem_append.1 hx with hx | hx
        · refine PartC.app ?_ hgr hv'
          exact ⟨((HP.out x hx).1.below Y3.out (Nat.le_refl _)).alloc _, (HP.out x hx).2⟩
        · simp at hx; subst hx
          refine PartC.app ?_ hgr hv'
          refine ⟨(O3.out.base_le y.size).alloc _, fun k hk e => ?_⟩
          have h1 := (O3.out.wb_lt k hk).1
          have h2 := (ho0.wb_lt k e).2
          omega
      have E2 : clsOf (L ++ [(⟨⟨r, s⟩, A3, k3⟩ : ClS)]) = (l.take (i + 1)).map (fun r => ⟨r, s⟩) := by rw [E.out, ← HL.out]; unfold clsOf; simp
      go_wp2_with (fail)
      go_roundg (n1 - (i + 1))
      case measure => have := HG.out; omega
      case rel => exact ⟨i + 1, L ++ [⟨⟨r, s⟩, A3, k3⟩], by omega, rfl, by go_num, E2, hown', hP', yw⟩
    · have hin : i = n1 := by omega
      subst hin
      have e : (l.take i) = l := List.take_of_length_le (by have := N1.out; omega)
      have hL := HL.out
      rw [e] at hL
      obtain ⟨A', c', rfl, _, _⟩ := HO.out.form
      have hO := HO.out
      have hP := HP.out
      have HLL := Lib.hid hL
      clear e hL
      go_wp2_with (fail)
      go_ret
      exact ⟨A', c', L, rfl, HLL.out, hO, hP, y⟩

set_option maxRecDepth 100000 in
set_option maxHeartbeats 1600000 in
theorem copyCells_any (A : Option Addr) (n c : Nat) (l : List ClS) (w : World) (hn : n = l.length) (h : RdCl w w.heap.size A l) (hb : n ≤ 100000000) (hs : ∀ x ∈ l, x.c.s.length ≤ 100000000) :
    Calls Tryz.prog 63 #[.slice A n c] w (NewCls (clsOf l) w) := by
  have N := Lib.hid hn
  have HS := Lib.hid hs
  have HR := Lib.hid h.1
  have HP := Lib.hid h.2
  clear hn hs h
  go_enter Tryz.func63, Tryz.ntmps63
  go_wp2_with (go_at_call 142; refine Hid.out ?_)
  refine Lib.hid ?_
  refine (cloneCs_any A n c l w N.out HR.out (by omega)).mono ?_
  rintro e w1 ⟨A1, k1, rfl, o1, y1⟩
  have O1 := Lib.hid o1
  have Y1 := Lib.hid y1
  have LB := Lib.hid (show l.length ≤ 100000000 by have := N.out; omega)
  clear o1 y1
  go_wp2_with (fail)
  go_loopg [9] l.length (fun g iv wr => ∃ (m : Nat) (D : List ClS), m ≤ l.length ∧ g = l.length - m ∧ iv = .int .i64 (m : Int) ∧ D.length = m ∧ clsOf D = clsOf (l.take m) ∧
    OwCs wr w.heap.size (.slice A1 l.length k1) (D ++ l.drop m) ∧ (∀ x ∈ D, PartC wr w.heap.size (.slice A1 l.length k1) x) ∧ Below w.heap.size w wr)
  case atStart => exact ⟨0, [], by omega, rfl, rfl, rfl, rfl, O1.out, fun x hx => (by cases hx), Y1.out⟩
  case round =>
    obtain ⟨m, D, hm, hg, rfl, hD, hDo, ho, hDp, y⟩ := hrel
    have HG := Lib.hid hg
    clear hg
    by_cases hlt : m < l.length
    · obtain ⟨x, hxi⟩ : ∃ x, l[m]? = some x := ⟨l[m], by rw [List.getElem?_eq_getElem hlt]⟩
      have hdrop : l.drop m = x :: l.drop (m + 1) := by
        rw [List.drop_eq_getElem_cons hlt]; rw [List.getElem?_eq_getElem hlt] at hxi; injection hxi with hxi; rw [hxi]
      have hxm := List.mem_of_getElem? hxi
      rw [hdrop] at ho
      have hlen : (D ++ x :: l.drop (m + 1)).length = l.length := by rw [List.length_append, hD, List.length_cons, List.length_drop]; omega
      have hi : m < (D ++ x :: l.drop (m + 1)).length := by omega
      obtain ⟨g, cur, hA, hq1, hBg, hgb, hq2, hq3, hq4, hq5⟩ := ho.row (by omega)
      have hk1 : 0 < k1 := by omega
      clear hq1 hq2 hq3 hq4 hq5
      subst hA
      obtain ⟨ad, hA2, _, hcx⟩ := (ho.rd ClS.enc_len).at_ hi
      injection hA2 with hA2
      subst hA2
      rw [add_row] at hcx
      have hx : (D ++ x :: l.drop (m + 1))[m] = x := by simp [List.getElem_append_right, hD]
      rw [hx] at hcx
      have p1 := Lib.hid ((HP.out x hxm).ext y)
      have hS := Lib.hid (HS.out x hxm)
      obtain ⟨k2, rfl⟩ : ∃ k2, k1 = k2 + 1 := ⟨k1 - 1, by omega⟩
      have HDP := Lib.hid hDp
      have hglt := lt_of_some hgb
      have HT := Lib.hid (show clsOf (D ++ [x]) = clsOf (l.take (m + 1)) by
        rw [List.take_add_one, hxi]; unfold clsOf at hDo ⊢; rw [List.map_append, List.map_append, hDo]; rfl)
      have HO := Lib.hid ho
      have HGB := Lib.hid hgb
      have HD := Lib.hid hD
      obtain ⟨⟨r, s⟩, As, cs⟩ := x
      obtain ⟨z0, z1⟩ := cl_cells hcx
      have hfr : ∀ j, wr.frozen? ⟨g, j, none⟩ = false := fun j => box_thaw hgb j
      have e1 : (m : Int) < (l.length : Int) := by omega
      have hw2 : IntKind.i64.wrap ((m:Int) + 1) = (m : Int) + 1 := IntWalk.i64_in _ (by have := LB.out; omega)
      clear hcx hx ho hDp hDo hxi hdrop hgb hD hlen hi hxm z0
      go_wp2_with (go_at_call 143; refine Hid.out ?_)
      refine Lib.hid ?_
      refine (copy_any As s.length cs s wr rfl p1.out hS.out).mono ?_
      rintro e w2 ⟨A2, c2, rfl, o2, y2⟩
      have O2 := Lib.hid o2
      have Y2 := Lib.hid y2
      have hgb2 := (y2.block g hglt).trans HGB.out
      have hf2 : w2.frozen? ⟨g, m * 2 + 1, none⟩ = false := box_thaw hgb2 _
      have HC2 : Hid (∃ cur', w2.heap[g]? = some (.cells cur' 38 (0, 0))) := Lib.hid ⟨_, hgb2⟩
      have z1' : w2.cell? ⟨g, m * 2 + 1, none⟩ = some (.slice As s.length cs) := (y2.cell (p := ⟨g, m * 2 + 1, none⟩) hglt).trans z1
      clear o2 y2 hgb2
      go_wp2_with (fail)
      have ho2 := HO.out.below Y2.out (Nat.le_refl _)
      have hS3 := Ow.setEl ClS.enc_len ho2 (i := m) (j := 1) (u := .slice A2 s.length c2) (a' := ⟨⟨r, s⟩, A2, c2⟩) (by simp; have := HD.out; omega) (by omega) (by simp [List.getElem_append_right, HD.out, ClS.enc])
      rw [List.set_append_right _ _ (by have := HD.out; omega), show m - D.length = 0 by have := HD.out; omega, List.set_cons_zero] at hS3
      have yz := (ext_trans y Y2.out).setCell (p := ⟨g, m * 2 + 1, none⟩) hBg (.slice A2 s.length c2)
      have hP3 : ∀ x ∈ D ++ [(⟨⟨r, s⟩, A2, c2⟩ : ClS)], PartC (w2.setCell ⟨g, m * 2 + 1, none⟩ (.slice A2 s.length c2)) w.heap.size (.slice (some ⟨g, 0, none⟩) l.length (k2 + 1)) x := fun x hx => by
        rcases List.mem_append.1 hx with hx | hx
        · exact ((HDP.out x hx).below Y2.out).set
        · simp at hx; subst hx
          refine PartC.set ⟨O2.out.base_le y.size, fun k hk e => ?_⟩
          have h1 := (O2.out.wb_lt k hk).1
          injection e with e
          have e : g = k := e
          omega
      go_roundg (l.length - (m + 1))
      case measure => have := HG.out; omega
      case rel => exact ⟨m + 1, D ++ [⟨⟨r, s⟩, A2, c2⟩], by omega, rfl, by go_num, by rw [List.length_append, HD.out]; rfl, by rw [← HT.out]; simp [clsOf], by rw [List.append_assoc]; exact hS3, hP3, yz⟩
    · have hml : m = l.length := by omega
      subst hml
      have HO := Lib.hid ho
      have HDP := Lib.hid hDp
      have HDO := Lib.hid hDo
      have HD := Lib.hid hD
      clear ho hDp hDo hD
      go_wp2_with (fail)
      go_ret
      have hd : l.drop l.length = [] := by simp
      have ho := HO.out
      have hp := HDP.out
      rw [hd, List.append_nil] at ho
      have hl : l.length = D.length := HD.out.symm
      rw [hl] at ho hp ⊢
      exact ⟨A1, k1, D, rfl, by rw [HDO.out, List.take_length], ho, hp, y⟩

theorem Tryz.unCl : Tryz.prog.underlying 38 = some (.struct (Tryz.prog.fieldsOf 38)) := by kernel_rfl
set_option maxRecDepth 100000 in
set_option maxHeartbeats 3200000 in
theorem cell_any (s : Nat) (l : List Ky) (r : Int) (As Ap : Option Addr) (n cs np cp : Nat) (set : List At) (p : List Ch) (w : World) (hS : Sch w s l) (hn : n = set.length) (hp : np = p.length) (h1 : RdAt w w.heap.size As set) (h2 : RdCh w w.heap.size Ap p)
    (b1 : n ≤ 100000000) (b2 : np ≤ 100000000) (g1 : n ≤ cs) (g2 : cs ≤ maxLen) :
    Calls Tryz.prog 37 #[.pointer (some ⟨s, 0, none⟩), .agg #[.int .i32 r, .slice As n cs], .slice Ap np cp] w
      fun e w' => ∃ A c, e = .returned (.agg #[.int .i32 r, .slice A (actC l ⟨r, set⟩ p).s.length c]) ∧ OwAt w' w.heap.size (.slice A (actC l ⟨r, set⟩ p).s.length c) (actC l ⟨r, set⟩ p).s ∧ Below w.heap.size w w' := by
  have ya := ext_alloc w (.cells #[.int .i32 r, .slice As n cs] 38)
  have yb := ext_alloc (w.alloc (.cells #[.int .i32 r, .slice As n cs] 38)) (.cells #[.int .i32 0, .slice none 0 0] 38)
  have g1' := heap_alloc_new w (.cells #[.int .i32 r, .slice As n cs] 38)
  have g2' := heap_alloc_new (w.alloc (.cells #[.int .i32 r, .slice As n cs] 38)) (.cells #[.int .i32 0, .slice none 0 0] 38)
  have G1 := (yb.block w.heap.size (by simp)).trans g1'
  rw [World.size_alloc] at g2'
  have y := ext_trans ya yb
  have N := Lib.hid hn
  have P := Lib.hid hp
  have HR : Hid (∃ X, (actC l ⟨r, set⟩ p).s = X ∧ applyP (partP l (r == 10) p) set = X) := Lib.hid ⟨_, rfl, rfl⟩
  obtain ⟨X, hX1, hX2⟩ := HR.out
  rw [hX1]
  have HX := Lib.hid hX2
  clear ya yb g1' hX1 hX2 HR hn hp
  have hbp : (partP l (r == 10) p).length ≤ np := by rw [P.out]; exact List.length_filter_le _ _
  have BND : Hid (np ≤ 100000000) := Lib.hid b2
  go_enter Tryz.func37, Tryz.ntmps37
  go_wp2_with (fail)
  obtain ⟨sz, hsz⟩ : ∃ z, w.heap.size = z := ⟨_, rfl⟩
  have HSZ := Lib.hid hsz
  generalize ((w.alloc (.cells #[.int .i32 r, .slice As n cs] 38)).alloc (.cells #[.int .i32 0, .slice none 0 0] 38)) = v at *
  have Y := Lib.hid y
  have HG1 := Lib.hid G1
  have HG2 := Lib.hid g2'
  obtain ⟨a0, a1⟩ := box_cl G1
  obtain ⟨e0, e1⟩ := box_cl g2'
  have hlt1 := lt_of_some G1
  have hlt2 := lt_of_some g2'
  rw [hsz] at a0 a1 e0 e1 hlt1 hlt2 ⊢
  have SF : Hid (∀ u, Below v.heap.size v u → (u.cell? ⟨sz, 0, none⟩ = some (.int .i32 r) ∧ u.cell? ⟨sz, 1, none⟩ = some (.slice As n cs)) ∧ (u.cell? ⟨sz + 1, 0, none⟩ = some (.int .i32 0) ∧ u.cell? ⟨sz + 1, 1, none⟩ = some (.slice none 0 0)) ∧ u.heap[sz + 1]? = some (.cells #[.int .i32 0, .slice none 0 0] 38 (0, 0))) := Lib.hid (fun u hu => by
    have q1 := (hu.block _ (by rw [← HSZ.out] at hlt1; exact hlt1)).trans HG1.out
    have q2 := (hu.block _ (by rw [← HSZ.out] at hlt2; exact hlt2)).trans HG2.out
    rw [HSZ.out] at q1 q2
    exact ⟨box_cl q1, box_cl q2, q2⟩)
  have hf0 : v.frozen? ⟨sz + 1, 0, none⟩ = false := box_thaw (SF.out v (Below.refl _ _)).2.2 0
  clear G1 g2' hlt1 hlt2 y hsz
  go_region_law (first
    | (refine step_fn rfl 94 [.tmp 11, .tmp 12, .tmp 15] #[26, 48, 4] rfl Tryz.f94 (by kernel_rfl) (by kernel_rfl) (by kernel_rfl) [.pointer (some ⟨s, 0, none⟩), .slice Ap np cp, .bool (r == 10)] (by rfl) (part_any s l (r == 10) Ap np cp p v.drew P.out (h2.ext (up_drew Y.out)) b2 (hS.ext (up_drew Y.out))) ?_
       rintro e w3 ⟨A3, k3, rfl, o3, y3⟩
       refine ⟨_, rfl, ?_⟩
       have O3 := Lib.hid o3
       have Y3 : Hid (Below v.heap.size v w3) := Lib.hid ((up_drew (Below.refl _ _)).trans y3)
       obtain ⟨⟨c0, c1⟩, ⟨c2, c3⟩, c4⟩ := SF.out w3 Y3.out
       clear o3 y3)
    | (refine step_fn rfl 93 [.tmp 10, .tmp 16] #[36, 48] rfl Tryz.f93 (by kernel_rfl) (by kernel_rfl) (by kernel_rfl) [.slice As n cs, .slice A3 (partP l (r == 10) p).length k3] (by rfl) (apply_any As A3 n (partP l (r == 10) p).length cs k3 set (partP l (r == 10) p) w3 N.out rfl (h1.ext (ext_trans Y.out Y3.out)) (O3.out.rd Ch.enc_len) b1 (by have := BND.out; omega) g1 g2) ?_
       rw [HX.out]
       rintro e w4 ⟨A4, k4, rfl, o4, y4⟩
       refine ⟨_, rfl, ?_⟩
       have O4 := Lib.hid o4
       have Y4 : Hid (Below v.heap.size v w4) := Lib.hid (ext_trans Y3.out y4)
       obtain ⟨⟨d0, d1⟩, ⟨d2, d3⟩, d4⟩ := SF.out w4 Y4.out
       have hf4 : w4.frozen? ⟨sz + 1, 0, none⟩ = false := box_thaw d4 0
       have hf5 : w4.frozen? ⟨sz + 1, 1, none⟩ = false := box_thaw d4 1
       clear o4 y4))
  all_goals
    go_wp2_with (fail)
    have q1 : ((w4.setCell ⟨sz + 1, 0, none⟩ (.int .i32 r)).setCell ⟨sz + 1, 1, none⟩ (.slice A4 X.length k4)).heap[sz + 1]? = some (.cells #[.int .i32 r, .slice A4 X.length k4] 38 (0, 0)) := by
      have h1 := heap_setCell_self (j := 0) d4 (.int .i32 r)
      have h2 := heap_setCell_self (j := 1) h1 (.slice A4 X.length k4)
      simpa using h2
    refine bodyPost_ret (results_cell_row (P := Tryz.prog) rfl _ _ (sz + 1) 38 #[.int .i32 r, .slice A4 X.length k4] (0, 0) _ rfl q1 Tryz.unCl rfl Tryz.szCl) rfl ?_
    have ha := (O4.out.base_le (B := w.heap.size) (by have := Y3.out.size; have := Y.out.size; omega))
    have hne : ∀ k, wb (.slice A4 X.length k4) = some k → k ≠ sz + 1 := fun k hk => by
      have := (O4.out.wb_lt k hk).1
      have := lt_of_some c4
      omega
    refine ⟨A4, k4, rfl, (ha.setCell (p := ⟨sz + 1, 0, none⟩) (fun e => hne _ e rfl) _).setCell (p := ⟨sz + 1, 1, none⟩) (fun e => hne _ e rfl) _, ?_⟩
    exact ((ext_trans Y.out Y4.out).setCell (p := ⟨sz + 1, 0, none⟩) (by have := HSZ.out; simp only; omega) _).setCell (p := ⟨sz + 1, 1, none⟩) (by have := HSZ.out; simp only; omega) _
end Go.Proofs.YtfnkjcodcoehcaaGreatDoor
