/- The walk of AttrsOrder: whatever is handed in, it answers true and changes nothing that was there. -/
import Derived.Test.YtclfplpggmefjaaAttrsLaw
import Derived.Test.YtclfplpggmefjaaGreat05
import Derived.Test.YtclfplpggmefjaaKnown05
namespace Go.Proofs.Ytclfplpggmefjaa
open Go.RowKit
set_option linter.unusedVariables false
set_option linter.unusedSimpArgs false

/-- a value that is a slice that reads as s -/
def SetIn (s : List At) (v : Value) (w : World) : Prop := ∃ A n c, v = .slice A n c ∧ n = s.length ∧ RdAt w w.heap.size A s
theorem SetIn.nil (w : World) : SetIn [] (.slice none 0 0) w := ⟨none, 0, 0, rfl, rfl, Rd.nil⟩
theorem NewAt.setIn {r : List At} {w w' : World} {v : Value} (h : NewAt r w (.returned v) w') : SetIn r v w' := by
  obtain ⟨A, c, e, ho, _⟩ := h
  injection e with e
  exact ⟨A, _, c, e, rfl, ho.rd At.enc_len⟩

theorem attrsOrder_far (A : Option Addr) (n c : Nat) (key : Int) (w : World) (hlt : (40 : Int) < n) :
    Calls Try.prog 6 #[.slice A n c, .int .i64 key] w fun e w' => e = .returned (.bool true) ∧ Below w.heap.size w w' := by
  go_enter Try.func6, Try.ntmps6
  go_wp2_with (go_at_call 21; refine Hid.out ?_)
  refine Lib.hid ?_
  refine (known05_any w).mono ?_
  rintro e w1 ⟨rfl, y⟩
  go_wp2_with (fail)
  go_ret
  exact ⟨rfl, y⟩

set_option maxRecDepth 100000 in
set_option maxHeartbeats 4000000 in
theorem attrsOrder_near (A : Option Addr) (n c : Nat) (l : List At) (key : Int) (w : World) (hn : n = l.length) (h : RdAt w w.heap.size A l) (hle : n ≤ 40) :
    Calls Try.prog 6 #[.slice A n c, .int .i64 key] w fun e w' => e = .returned (.bool true) ∧ Below w.heap.size w w' := by
  have N := Lib.hid hn
  clear hn
  go_enter Try.func6, Try.ntmps6
  have hnl : ¬ (40 : Int) < n := by omega
  go_wp2_with (go_at_call 20; refine Hid.out ?_)
  refine Lib.hid ?_
  refine (great05_any A n c l w N.out h (by omega)).mono ?_
  rintro e w0 ⟨g, rfl, -, hww⟩
  subst hww
  cases g
  case true =>
    go_wp2_with (go_at_call 21; refine Hid.out ?_)
    refine Lib.hid ?_
    refine (known05_any w).mono ?_
    rintro e w1 ⟨rfl, y⟩
    go_wp2_with (fail)
    go_ret
    exact ⟨rfl, y⟩
  clear hnl
  go_wp2_with (fail)
  go_loopg [5, 31] n (fun g av iv wr => ∃ (i : Nat) (s : List At) (w0 : World), i ≤ n ∧ g = n - i ∧ iv = .int .i64 i ∧ w0 = wr ∧ Hid (s = aP (l.take i)) ∧ SetIn s av w0 ∧ Below w.heap.size w w0)
  case atStart => exact ⟨0, [], w, by omega, rfl, rfl, rfl, Lib.hid (by simp [aP]), SetIn.nil _, Below.refl _ _⟩
  case round =>
    obtain ⟨i, s, w0, hi, hg, rfl, rfl, HS, hset, hx⟩ := hrel
    have HG := Lib.hid hg
    clear hg
    obtain ⟨A1, n1, c1, rfl, hn1, h1⟩ := hset
    have N1 := Lib.hid hn1
    clear hn1
    have hsl : n1 ≤ 40 := by have t := aP_len (l.take i); rw [← HS.out, ← N1.out, List.length_take] at t; omega
    by_cases hlt : i < n
    · obtain ⟨ad, x, rfl, had, _, hxi, hc1⟩ := (h.ext hx).el (i := i) (by have := N.out; omega)
      have HXI := Lib.hid hxi
      clear hxi
      obtain ⟨x1, x2, x3, x4, x5⟩ := x
      obtain ⟨r0, r1, r2, r3, r4⟩ := at_cells hc1
      clear hc1
      go_wp2_with (go_at_call 22; refine Hid.out ?_)
      refine Lib.hid ?_
      refine (with_any A1 n1 c1 s x1 x2 x3 x4 x5 _ N1.out h1 (by omega)).mono ?_
      rintro e w2 ⟨r, hr, hrl, A2, c2, rfl, ho, y⟩
      have h2 := ho.rd At.enc_len
      have HR : Hid (r = aP (l.take (i + 1))) := Lib.hid (by rw [take_snoc HXI.out, aP_snoc, ← HS.out]; exact hr (by rw [HS.out]; exact aP_rise _))
      clear r0 r1 r2 r3 r4 ho hr hrl
      obtain ⟨n2, hn2⟩ : ∃ n2, n2 = r.length := ⟨_, rfl⟩
      rw [← hn2]
      have N2 := Lib.hid hn2
      clear hn2
      go_wp2_with (fail)
      go_roundg (n - (i + 1))
      case measure => have := HG.out; omega
      case rel => exact ⟨i + 1, r, w2, by omega, rfl, by go_num, rfl, HR, ⟨A2, n2, c2, rfl, N2.out, h2⟩, ext_trans hx y⟩
    · have ein : n = i := by omega
      subst ein
      have HA : Hid (s = aP l) := Lib.hid (by rw [HS.out, List.take_of_length_le (by rw [← N.out]; exact Nat.le_refl _)])
      clear HS HG hlt hi
      go_wp2_with (fail)
      go_loopg [6, 43] n (fun g bv iv wr => ∃ (i : Nat) (t : List At) (w1 : World), i ≤ n ∧ g = n - i ∧ iv = .int .i64 i ∧ w1 = wr ∧ Hid (t = bP (l.reverse.take i)) ∧ SetIn t bv w1 ∧ Below w0.heap.size w0 w1)
      case atStart => exact ⟨0, [], w0, by omega, rfl, rfl, rfl, Lib.hid (by simp [bP]), SetIn.nil _, Below.refl _ _⟩
      case round =>
        obtain ⟨i, t, w1, hi, hg, rfl, rfl, HT, hset, hx1⟩ := hrel
        have HG := Lib.hid hg
        clear hg
        obtain ⟨A2, n2, c2, rfl, hn2, h2⟩ := hset
        have N2 := Lib.hid hn2
        clear hn2
        have htl : n2 ≤ 40 := by have q := bP_len (l.reverse.take i); rw [← HT.out, ← N2.out, List.length_take] at q; omega
        by_cases hlt : i < n
        · obtain ⟨j, hj⟩ : ∃ j, i + j + 1 = n := ⟨n - 1 - i, by omega⟩
          have hjn : j < n := by omega
          have hw1 : IntKind.i64.wrap ((n : Int) - 1) = (n : Int) - 1 := IntWalk.i64_in _ (by omega)
          have hw2 : IntKind.i64.wrap ((n : Int) - 1 - (i : Int)) = (j : Int) := by rw [show (n : Int) - 1 - (i : Int) = (j : Int) by omega]; exact IntWalk.i64_in _ (by omega)
          obtain ⟨ad, x, rfl, had, _, hxi, hc1⟩ := ((h.ext hx).ext hx1).el (i := j) (by have := N.out; omega)
          have HXI : Hid (l.reverse[i]? = some x) := Lib.hid (rev_at hxi (by have := N.out; omega))
          clear hxi
          obtain ⟨x1, x2, x3, x4, x5⟩ := x
          obtain ⟨r0, r1, r2, r3, r4⟩ := at_cells hc1
          clear hc1
          go_wp2_with (go_at_call 23; refine Hid.out ?_)
          refine Lib.hid ?_
          have hb0 := heap_alloc_new w1 (.cells #[.int .i64 x1, .int .u8 x2, .int .i64 x3, .int .u64 x4, .string x5] 46)
          have y := ext_alloc w1 (.cells #[.int .i64 x1, .int .u8 x2, .int .i64 x3, .int .u64 x4, .string x5] 46)
          clear r0 r1 r2 r3 r4
          generalize World.alloc w1 _ = w2 at *
          have h3 := h2.ext y
          refine (get_any A2 n2 c2 t x1 w2 N2.out h3 (by omega)).mono ?_
          rintro e w3 ⟨v, b, rfl, ⟨-, -, hgv⟩, y2⟩
          replace hgv := hgv (by rw [HT.out]; exact bP_rise _)
          have hb1 := (y2.block _ (blk_lt hb0)).trans hb0
          have h4 := h3.ext y2
          have y3 := ext_trans y y2
          obtain ⟨b0, b1, b2, b3, b4⟩ := box_at hb1
          have HB := Lib.hid hb1
          clear hb0 hb1 y y2 h3 h2
          cases b with
          | true =>
            have HR : Hid (t = bP (l.reverse.take (i + 1))) := Lib.hid (by rw [take_snoc HXI.out, bP_snoc, ← HT.out, stepB, hgv]; rfl)
            clear hgv
            go_wp2_with (fail)
            go_roundg (n - (i + 1))
            case measure => have := HG.out; omega
            case rel => exact ⟨i + 1, t, _, by omega, rfl, by go_num, rfl, HR, ⟨A2, n2, c2, rfl, N2.out, h4.ext (ext_alloc _ _)⟩, ext_trans hx1 (up_alloc y3 _)⟩
          | false =>
            obtain ⟨q0, q1, q2, q3, q4⟩ := box_at (((ext_alloc w3 (.cells #[.int .u8 v.k, .int .i64 v.n, .int .u64 v.f, .string v.s] 38)).block _ (blk_lt HB.out)).trans HB.out)
            go_wp2_with (go_at_call 22; refine Hid.out ?_)
            refine Lib.hid ?_
            have y4 := up_alloc y3 (.cells #[.int .u8 v.k, .int .i64 v.n, .int .u64 v.f, .string v.s] 38)
            have h5 := h4.ext (ext_alloc w3 (.cells #[.int .u8 v.k, .int .i64 v.n, .int .u64 v.f, .string v.s] 38))
            clear b0 b1 b2 b3 b4 q0 q1 q2 q3 q4 h4 y3
            refine (with_any A2 n2 c2 t x1 x2 x3 x4 x5 _ N2.out h5 (by omega)).mono ?_
            rintro e w4 ⟨r, hr, hrl, A3, c3, rfl, ho, y5⟩
            have h6 := ho.rd At.enc_len
            have HR : Hid (r = bP (l.reverse.take (i + 1))) := Lib.hid (by rw [take_snoc HXI.out, bP_snoc, ← HT.out, stepB, hgv]; exact hr (by rw [HT.out]; exact bP_rise _))
            clear hgv ho hr hrl h5
            obtain ⟨n3, hn3⟩ : ∃ n3, n3 = r.length := ⟨_, rfl⟩
            rw [← hn3]
            have N3 := Lib.hid hn3
            clear hn3
            go_wp2_with (fail)
            go_roundg (n - (i + 1))
            case measure => have := HG.out; omega
            case rel => exact ⟨i + 1, r, w4, by omega, rfl, by go_num, rfl, HR, ⟨A3, n3, c3, rfl, N3.out, h6⟩, ext_trans hx1 (ext_trans y4 y5)⟩
        · have ein : n = i := by omega
          subst ein
          have HB : Hid (t = s) := Lib.hid (by rw [HT.out, HA.out, law_order, List.take_of_length_le (by rw [List.length_reverse, ← N.out]; exact Nat.le_refl _)])
          clear HT HG hlt hi
          have h1' := h1.ext hx1
          have hx' := ext_trans hx hx1
          have M2 : Hid (n2 = s.length) := Lib.hid (by rw [N2.out, HB.out])
          have h2' : RdAt w1 w1.heap.size A2 s := by rw [← HB.out]; exact h2
          clear h2 h1 hx hx1 N2 HB
          go_wp2_with (go_at_call 24; refine Hid.out ?_)
          refine Lib.hid ?_
          refine (attrsSame_any A1 A2 n1 n2 c1 c2 s s w1 N1.out M2.out h1' h2' (by omega) (by omega)).mono ?_
          rintro e w2 ⟨rfl, d, rfl⟩
          rw [decide_eq_true rfl]
          have h2 := h1'.ext (ext_drew w1 d)
          have hx := ext_trans hx' (ext_drew w1 d)
          generalize World.drewN w1 d = w2 at *
          clear h1' h2' hx' M2 htl
          go_wp2_with (fail)
          go_loopg [73] n1 (fun g iv wr => ∃ (i : Nat) (w1 : World), i ≤ n1 ∧ g = n1 - i ∧ iv = .int .i64 i ∧ w1 = wr ∧ Below w2.heap.size w2 w1)
          case atStart => exact ⟨0, w2, by omega, rfl, rfl, rfl, Below.refl _ _⟩
          case round =>
            obtain ⟨i, w3, hi, hg, rfl, rfl, hx1⟩ := hrel
            have HG := Lib.hid hg
            clear hg
            have h3 := h2.ext hx1
            by_cases hlt : i < n1
            · obtain ⟨ad, x, rfl, had, _, hxi, hc1⟩ := h3.el (i := i) (by have := N1.out; omega)
              have hga := get_at (by rw [HA.out]; exact aP_rise l) hxi
              have HXI := Lib.hid hxi
              clear hxi
              obtain ⟨x1, x2, x3, x4, x5⟩ := x
              obtain ⟨r0, r1, r2, r3, r4⟩ := at_cells hc1
              clear hc1
              go_wp2_with (go_at_call 23; refine Hid.out ?_)
              refine Lib.hid ?_
              clear r0 r1 r2 r3 r4
              refine (get_any (some ad) n1 c1 s x1 w3 N1.out h3 (by omega)).mono ?_
              rintro e w4 ⟨v, b, rfl, ⟨-, -, hgv⟩, y⟩
              replace hgv := hgv (by rw [HA.out]; exact aP_rise l)
              rw [hga] at hgv
              clear hga
              cases b with
              | false => cases hgv
              | true =>
              injection hgv with hgv
              subst hgv
              have y2 := up_alloc y (.cells #[.int .u8 x2, .int .i64 x3, .int .u64 x4, .string x5] 38)
              have b0 := heap_alloc_new w4 (.cells #[.int .u8 x2, .int .i64 x3, .int .u64 x4, .string x5] 38)
              obtain ⟨b0, b1, b2, b3⟩ := box_v b0
              obtain ⟨ad', x, ea, had', _, hxi, hc1⟩ := (h3.ext y2).el (i := i) (by have := N1.out; omega)
              injection ea with ea
              subst ea
              rw [HXI.out] at hxi
              injection hxi with hxi
              subst hxi
              obtain ⟨r0, r1, r2, r3, r4⟩ := at_cells hc1
              clear hc1 y had' had
              have hq := beqV_eq (rfl : (⟨x2, x3, x4, x5⟩ : V) = ⟨x2, x3, x4, x5⟩)
              by_cases hpos : (0 : Int) < (i : Int)
              · obtain ⟨j, hj⟩ : ∃ j, j + 1 = i := ⟨i - 1, by omega⟩
                have hjn : j < n1 := by omega
                have hw : IntKind.i64.wrap ((i : Int) - 1) = (j : Int) := by rw [show (i : Int) - 1 = (j : Int) by omega]; exact IntWalk.i64_in _ (by omega)
                obtain ⟨ad', x, ea, had', _, hxj, hc1⟩ := (h3.ext y2).el (i := j) (by have := N1.out; omega)
                injection ea with ea
                subst ea
                have hlk := rise_lt (by rw [HA.out]; exact aP_rise l) (show j < i by omega) hxj HXI.out
                obtain ⟨p1, p2, p3, p4, p5⟩ := x
                have hnle : ¬ x1 ≤ p1 := by simp only at hlk; omega
                obtain ⟨t0, -⟩ := at_cells hc1
                have HJ := Lib.hid hj
                have hpos' : 0 < i := by omega
                clear hc1 hxj hlk hj
                go_wp2_with (go_quiet (fail))
                go_roundg (n1 - (i + 1))
                case measure => have := HG.out; omega
                case rel => exact ⟨i + 1, _, by omega, rfl, by go_num, rfl, below_drewN (ext_trans hx1 y2) _⟩
              · have hpos' : ¬ 0 < i := by omega
                go_wp2_with (go_quiet (fail))
                go_roundg (n1 - (i + 1))
                case measure => have := HG.out; omega
                case rel => exact ⟨i + 1, _, by omega, rfl, by go_num, rfl, below_drewN (ext_trans hx1 y2) _⟩
            · have ein : n1 = i := by omega
              subst ein
              clear HG hlt hi
              have hx3 := ext_trans hx hx1
              clear hx hx1
              go_wp2_with (go_at_call 25; refine Hid.out ?_)
              refine Lib.hid ?_
              refine (without_any A1 n1 c1 s key w3 N1.out h3 (by omega)).mono ?_
              rintro e w4 ⟨A3, c3, rfl, ho, y⟩
              have hu := ho.rd At.enc_len
              have ha := h3.ext y
              replace hx3 := ext_trans hx3 y
              obtain ⟨g1, g2, g3⟩ := without_all (l := s) (by rw [HA.out]; exact aP_rise l) key
              have g4 : getA (withoutP s key) key = none := by rw [getA_lk, g2 key, if_pos rfl]; rfl
              clear ho y h3 g2 h2
              generalize withoutP s key = u at *
              obtain ⟨n3, hn3⟩ : ∃ n3, n3 = u.length := ⟨_, rfl⟩
              rw [← hn3, ← N1.out] at g3
              rw [← hn3]
              have N3 := Lib.hid hn3
              clear hn3
              have hn3 : n3 ≤ 40 := by omega
              go_wp2_with (go_at_call 23; refine Hid.out ?_)
              refine Lib.hid ?_
              refine (get_any A1 n1 c1 s key w4 N1.out ha (by omega)).mono ?_
              rintro e w5 ⟨v, b, rfl, ⟨-, -, hgv⟩, y⟩
              replace hgv := hgv (by rw [HA.out]; exact aP_rise l)
              rw [hgv] at g3
              clear hgv ha
              replace hu := hu.ext y
              replace hx3 := ext_trans hx3 y
              clear y
              go_wp2_with (go_at_call 23; refine Hid.out ?_)
              refine Lib.hid ?_
              have y := ext_alloc w5 (.cells #[.int .u8 v.k, .int .i64 v.n, .int .u64 v.f, .string v.s] 38)
              refine (get_any A3 n3 c3 u key _ N3.out (hu.ext y) (by omega)).mono ?_
              rintro e w6 ⟨v2, b2, rfl, ⟨-, -, hgv⟩, y2⟩
              replace hgv := hgv g1
              rw [g4] at hgv
              replace hx3 := ext_trans (ext_trans hx3 y) y2
              clear y y2 hu g1 g4
              cases b2 with
              | true => cases hgv
              | false =>
              clear hgv
              cases b with
              | true =>
                have e3 : n3 + 1 = n1 := by simpa using g3
                have hw : IntKind.i64.wrap ((n1 : Int) - 1) = (n3 : Int) := by rw [show (n1 : Int) - 1 = (n3 : Int) by omega]; exact IntWalk.i64_in _ (by omega)
                clear g3
                have E3 := Lib.hid e3
                clear e3
                go_wp2_with (go_at_call 21; refine Hid.out ?_)
                refine Lib.hid ?_
                refine (known05_any _).mono ?_
                rintro e w7 ⟨rfl, y⟩
                go_wp2_with (fail)
                go_ret
                exact ⟨rfl, ext_trans (up_alloc hx3 _) y⟩
              | false =>
                have e3 : n3 = n1 := by simpa using g3
                clear g3
                subst e3
                go_wp2_with (go_at_call 21; refine Hid.out ?_)
                refine Lib.hid ?_
                refine (known05_any _).mono ?_
                rintro e w7 ⟨rfl, y⟩
                go_wp2_with (fail)
                go_ret
                exact ⟨rfl, ext_trans (up_alloc hx3 _) y⟩

theorem attrsOrder_any (A : Option Addr) (n c : Nat) (l : List At) (key : Int) (w : World) (hn : n = l.length) (h : RdAt w w.heap.size A l) :
    Calls Try.prog 6 #[.slice A n c, .int .i64 key] w fun e w' => e = .returned (.bool true) ∧ Below w.heap.size w w' := by
  rcases Nat.lt_or_ge 40 n with h40 | h40
  · exact attrsOrder_far A n c key w (by omega)
  · exact attrsOrder_near A n c l key w hn h h40
end Go.Proofs.Ytclfplpggmefjaa
