/- Merged texts: PatchMayFn, DelFn, OpForm, DelPartA. -/
import Derived.Test.YtipoeidmblnbbaaDoorPk10
import Derived.Test.YtipoeidmblnbbaaDoorPk2
import Derived.Test.YtipoeidmblnbbaaDoorPk1
import Derived.Test.YtipoeidmblnbbaaDoorPk6
import Derived.Test.YtipoeidmblnbbaaDoorPk7
/- The walk of patch.May. -/
namespace Go.Proofs.YtipoeidmblnbbaaDoor
open Go.RowKit
set_option linter.unusedVariables false
set_option linter.unusedSimpArgs false

theorem Sch.at_ {v W w' : World} {s : Nat} {l : List Ky} (h : Sch v s l) (y : Below W.heap.size W w') (e : W.heap = v.heap) : Sch w' s l := by
  have hc : ∀ p, W.cell? p = v.cell? p := fun p => by simp only [World.cell?, e]
  have h' : Sch W s l := by
    obtain ⟨bm, A, n, c, ls, hb, ⟨es, clock, hm, hk⟩, hn, hp, hs, hr⟩ := h
    exact ⟨bm, A, n, c, ls, by rw [e]; exact hb, ⟨es, clock, by rw [e]; exact hm, hk⟩, hn, hp, hs, by rw [e]; exact hr.keep fun p _ => hc p⟩
  exact h'.ext y

/-- may a change's value be? -/
def okC (c : Ch) : Bool := if c.gone = true then beqV c.v V.zero else mayV c.v
/-- is a change's key there, and does its value fit? -/
def thereC (l : List Ky) (c : Ch) : Bool := (findK l c.key).isSome && (c.gone || fitsK l c.key c.v)
def mayP (l : List Ky) (p : List Ch) : Int := if 64 < p.length then 3 else if riseC p = true ∧ p.all okC = true then (if p.all (thereC l) = true then 0 else 4) else 3
def loopP (l : List Ky) : Option Int → Int → List Ch → Int
  | _, e, [] => e
  | prev, e, c :: r => if (prev.all (fun k => decide (k < c.key)) && okC c) = true then loopP l (some c.key) (if thereC l c = true then e else 4) r else 3
theorem loopP_some (l : List Ky) : ∀ (p : List Ch) (k : Int) (e : Int), loopP l (some k) e p = if rise (k :: p.map (·.key)) = true ∧ p.all okC = true then (if p.all (thereC l) = true then e else 4) else 3
  | [], k, e => by simp [loopP, rise]
  | c :: r, k, e => by
    unfold loopP
    rw [loopP_some l r c.key]
    by_cases h1 : k < c.key
    · by_cases h2 : okC c = true
      · by_cases h3 : thereC l c = true
        · simp [h1, h2, h3, rise]
        · have h3 : thereC l c = false := by simpa using h3
          simp [h1, h2, h3, rise]
      · have h2 : okC c = false := by simpa using h2
        simp [h1, h2]
    · simp [h1, rise]
theorem loopP_none (l : List Ky) (p : List Ch) (h : p.length ≤ 64) : loopP l none 0 p = mayP l p := by
  unfold mayP
  rw [if_neg (by omega)]
  cases p with
  | nil => simp [loopP, riseC, rise]
  | cons c r =>
    unfold loopP
    rw [loopP_some]
    by_cases h2 : okC c = true
    · by_cases h3 : thereC l c = true
      · simp [h2, h3, riseC]
      · have h3 : thereC l c = false := by simpa using h3
        simp [h2, h3, riseC]
    · have h2 : okC c = false := by simpa using h2
      simp [h2]
/-- the fields' ranges of the changes' values -/
def okVc (p : List Ch) : Prop := ∀ c ∈ p, okV c.v
def okVs (p : List Ch) : Prop := ∀ c ∈ p, okV c.v ∧ c.v.s.size ≤ 100000000

set_option maxRecDepth 100000 in
set_option maxHeartbeats 3200000 in
theorem mayPc_any (s : Nat) (l : List Ky) (A : Option Addr) (n c : Nat) (p : List Ch) (w : World) (hn : n = p.length) (h : RdCh w w.heap.size A p) (hb : n ≤ 140737488355328) (hS : Sch w s l) (hv : okVc p) (hT : Lib.Utf8Tabs 1 2 w) :
    Calls Tryd.prog 110 #[.pointer (some ⟨s, 0, none⟩), .slice A n c] w fun e w' => e = .returned (.int .i64 (mayP l p)) ∧ Below w.heap.size w w' := by
  have N := Lib.hid hn
  generalize hR : mayP l p = R
  have HR := Lib.hid hR
  clear hn hR
  by_cases h64 : (64 : Int) < (n : Int)
  · go_enter Tryd.func110, Tryd.ntmps110
    go_wp2_with (fail)
    go_ret
    refine ⟨ret_int ?_, Below.refl _ _⟩
    rw [← HR.out]
    have := N.out
    unfold mayP
    rw [if_pos (by omega)]
  have HP : Hid (loopP l none 0 p = R) := Lib.hid (by rw [← HR.out]; exact loopP_none l p (by have := N.out; omega))
  go_enter Tryd.func110, Tryd.ntmps110
  go_wp2_with (fail)
  go_loopg [5, 15] n (fun g ev iv wr => ∃ (m : Nat) (ei : Int), m ≤ n ∧ g = n - m ∧ ev = .int .i64 ei ∧ iv = .int .i64 (m : Int) ∧ Below w.heap.size w wr ∧ Hid (loopP l (if m = 0 then none else (p[m - 1]?).map (·.key)) ei (p.drop m) = R))
  case atStart => exact ⟨0, 0, by omega, rfl, rfl, rfl, Below.refl _ _, Lib.hid (by rw [List.drop_zero]; exact HP.out)⟩
  case round =>
    obtain ⟨m, ei, hm, hg, rfl, rfl, y, HI⟩ := hrel
    have HG := Lib.hid hg
    clear hg HR HP
    by_cases hlt : m < n
    · have hl1 : m < p.length := by have := N.out; omega
      obtain ⟨ad, x, rfl, had, hd1, hx1, hc0⟩ := (h.below y (Nat.le_refl _)).el hl1
      have hxv := hv x (List.mem_of_getElem? hx1)
      obtain ⟨x1, g, x2, x3, x4, x5⟩ := x
      obtain ⟨r0, r1, r2, r3, r4, r5⟩ := ch_cells hc0
      obtain ⟨f0, f1⟩ : 0 ≤ x4 ∧ x4 < 18446744073709551616 := ⟨hxv.f0, hxv.f1⟩
      have HI2 : Hid ((if ((if m = 0 then none else (p[m - 1]?).map (·.key)).all (fun k => decide (k < x1)) && okC ⟨x1, g, x2, x3, x4, x5⟩) = true then loopP l (some x1) (if thereC l ⟨x1, g, x2, x3, x4, x5⟩ = true then ei else 4) (p.drop (m + 1)) else 3) = R) := Lib.hid (by
        rw [← HI.out, hd1]; rfl)
      have HX := Lib.hid hx1
      have y2 := ext_alloc wr (.cells #[.int .i64 x1, .bool g, .int .u8 x2, .int .i64 x3, .int .u64 x4, .string x5] 111)
      have hk2 := heap_alloc_new wr (.cells #[.int .i64 x1, .bool g, .int .u8 x2, .int .i64 x3, .int .u64 x4, .string x5] 111)
      have HK2 := Lib.hid hk2
      have HS2 := Lib.hid ((hS.ext y).ext y2)
      have HT2 := Lib.hid (Utf8Tabs_below (Utf8Tabs_below hT y) y2)
      clear hc0 hd1 hx1 HI hk2 hxv
      have hw2 : IntKind.i64.wrap ((m:Int) + 1) = (m : Int) + 1 := IntWalk.i64_in _ (by omega)
      go_wp2_with (go_at_call 68; refine Hid.out ?_)
      refine Lib.hid ?_
      generalize hw0 : wr.alloc _ = w0 at *
      clear hw0
      refine (findS_any s l x1 w0 HS2.out).mono ?_
      rintro e w3 ⟨k1, k2, k3, k4, k5, k6, q, rfl, hq1, hq2, y3⟩
      have HQ2 := Lib.hid hq2
      have y4 := ext_alloc w3 (.cells #[.int .i64 k1, .bool k2, .int .u8 k3, .bool k4, .bool k5, .int .i64 k6] 60)
      have hk5 := (y4.block _ (lt_of_some ((y3.block _ (lt_of_some HK2.out)).trans HK2.out))).trans ((y3.block _ (lt_of_some HK2.out)).trans HK2.out)
      have y5 := ext_trans y (ext_trans y2 (ext_trans y3 y4))
      have HS5 := Lib.hid (HS2.out.ext (ext_trans y3 y4))
      have HT5 := Lib.hid (Utf8Tabs_below HT2.out (ext_trans y3 y4))
      have hh5 := h.below y5 (Nat.le_refl _)
      obtain ⟨b0, b1, b2, b3, b4, b5⟩ := box_ch hk5
      have HK5 := Lib.hid hk5
      clear hk5 hq1 hq2 r0 r1 r2 r3 r4 r5 HK2 HS2 HT2
      cases m with
      | zero =>
        have HI3 : Hid ((if okC ⟨x1, g, x2, x3, x4, x5⟩ = true then loopP l (some x1) (if thereC l ⟨x1, g, x2, x3, x4, x5⟩ = true then ei else 4) (p.drop (0 + 1)) else 3) = R) := Lib.hid (by rw [← HI2.out]; simp)
        clear HI2
        go_wp2_with (fail)
        go_quiet (fail)
        cases g with
        | true =>
          cases hz : beqV ⟨x2, x3, x4, x5⟩ ⟨0, 0, 0, ⟨#[]⟩⟩ with
          | false =>
            have hok : okC ⟨x1, true, x2, x3, x4, x5⟩ = false := hz
            have HOK := Lib.hid hok
            clear hok
            go_wp2_with (fail)
            go_ret
            exact ⟨ret_int (by rw [← HI3.out]; rw [HOK.out]; rfl), y5.trans (ext_drew _ _ |>.mono (y5.size))⟩
          | true =>
            have hok : okC ⟨x1, true, x2, x3, x4, x5⟩ = true := hz
            have HOK := Lib.hid hok
            clear hok
            have HTH : Hid (thereC l ⟨x1, true, x2, x3, x4, x5⟩ = q) := Lib.hid (by unfold thereC; rw [HQ2.out]; simp)
            cases q with
            | false =>
              go_wp2_with (fail)
              go_roundg (n - (0 + 1))
              case measure => have := HG.out; omega
              case rel => exact ⟨0 + 1, 4, by omega, rfl, rfl, by go_num, y5.trans ((ext_drew _ _).mono y5.size), Lib.hid (by rw [← HI3.out, if_neg (show ¬ (0 + 1 = 0) by omega), Nat.add_sub_cancel, HX.out]; rw [HOK.out, HTH.out]; rfl)⟩
            | true =>
              go_wp2_with (fail)
              go_roundg (n - (0 + 1))
              case measure => have := HG.out; omega
              case rel => exact ⟨0 + 1, ei, by omega, rfl, rfl, by go_num, y5.trans ((ext_drew _ _).mono y5.size), Lib.hid (by rw [← HI3.out, if_neg (show ¬ (0 + 1 = 0) by omega), Nat.add_sub_cancel, HX.out]; rw [HOK.out, HTH.out]; rfl)⟩
        | false =>
          go_wp2_with (go_at_call 63; refine Hid.out ?_)
          refine Lib.hid ?_
          refine (mayV_any x2 x3 x4 x5 _ f0 f1 ?tb).mono ?_
          case tb => exact tabs_at hT y5 rfl
          rintro e w6 ⟨rfl, y6⟩
          have HOK : Hid (okC ⟨x1, false, x2, x3, x4, x5⟩ = mayV ⟨x2, x3, x4, x5⟩) := Lib.hid rfl
          generalize mayV ⟨x2, x3, x4, x5⟩ = M at HOK ⊢
          have yy6 := below_at y5 y6 rfl rfl rfl rfl
          have hk6 := kept1 HK5.out y6 rfl
          have HS6 := Lib.hid (Sch.at_ HS5.out y6 rfl)
          clear b0 b1 b2 b3 b4 b5
          obtain ⟨b0, b1, b2, b3, b4, b5⟩ := box_ch hk6
          clear hk6
          cases M with
          | false =>
            go_wp2_with (fail)
            go_ret
            exact ⟨ret_int (by rw [← HI3.out]; rw [HOK.out]; rfl), yy6⟩
          | true =>
            cases q with
            | false =>
              have HTH : Hid (thereC l ⟨x1, false, x2, x3, x4, x5⟩ = false) := Lib.hid (by unfold thereC; rw [HQ2.out]; rfl)
              go_wp2_with (fail)
              go_roundg (n - (0 + 1))
              case measure => have := HG.out; omega
              case rel => exact ⟨0 + 1, 4, by omega, rfl, rfl, by go_num, yy6, Lib.hid (by rw [← HI3.out, if_neg (show ¬ (0 + 1 = 0) by omega), Nat.add_sub_cancel, HX.out]; rw [HOK.out, HTH.out]; rfl)⟩
            | true =>
              have HTH : Hid (thereC l ⟨x1, false, x2, x3, x4, x5⟩ = fitsK l x1 ⟨x2, x3, x4, x5⟩) := Lib.hid (by unfold thereC; rw [HQ2.out]; rfl)
              go_wp2_with (go_at_call 64; refine Hid.out ?_)
              refine Lib.hid ?_
              refine (fitsS_any s l x1 x2 x3 x4 x5 _ ?sc f0 f1 ?tb).mono ?_
              case sc => exact HS6.out
              case tb => exact tabs_at hT yy6 rfl
              rintro e w7 ⟨rfl, y7⟩
              have yy7 := below_at yy6 y7 rfl rfl rfl rfl
              generalize fitsK l x1 ⟨x2, x3, x4, x5⟩ = F at HTH ⊢
              cases F with
              | false =>
                go_wp2_with (fail)
                go_roundg (n - (0 + 1))
                case measure => have := HG.out; omega
                case rel => exact ⟨0 + 1, 4, by omega, rfl, rfl, by go_num, yy7, Lib.hid (by rw [← HI3.out, if_neg (show ¬ (0 + 1 = 0) by omega), Nat.add_sub_cancel, HX.out]; rw [HOK.out, HTH.out]; rfl)⟩
              | true =>
                go_wp2_with (fail)
                go_roundg (n - (0 + 1))
                case measure => have := HG.out; omega
                case rel => exact ⟨0 + 1, ei, by omega, rfl, rfl, by go_num, yy7, Lib.hid (by rw [← HI3.out, if_neg (show ¬ (0 + 1 = 0) by omega), Nat.add_sub_cancel, HX.out]; rw [HOK.out, HTH.out]; rfl)⟩
      | succ k =>
        obtain ⟨ad', z, e, _, _, hz1, hz0⟩ := hh5.el (show k < p.length by omega)
        injection e with e; subst e
        obtain ⟨z1, zg, z2, z3, z4, z5⟩ := z
        obtain ⟨s0, -⟩ := ch_cells hz0
        have HI4 : Hid ((if (decide (z1 < x1) && okC ⟨x1, g, x2, x3, x4, x5⟩) = true then loopP l (some x1) (if thereC l ⟨x1, g, x2, x3, x4, x5⟩ = true then ei else 4) (p.drop (k + 1 + 1)) else 3) = R) := Lib.hid (by
          rw [← HI2.out, if_neg (show ¬ (k + 1 = 0) by omega), Nat.add_sub_cancel, hz1]; simp)
        clear HI2 hz1 hz0
        have hkn : k < n := by omega
        have hw1 : IntKind.i64.wrap (k:Int) = (k : Int) := IntWalk.i64_in _ (by omega)
        by_cases hle : x1 ≤ z1
        · have HI3 : Hid ((3 : Int) = R) := Lib.hid (by rw [← HI4.out, show decide (z1 < x1) = false from decide_eq_false (by omega)]; simp)
          clear HI4
          go_wp2_with (fail)
          go_quiet (fail)
          go_wp2_with (fail)
          go_ret
          exact ⟨ret_int HI3.out, y5.trans ((ext_drew _ _).mono y5.size)⟩
        · have HI3 : Hid ((if okC ⟨x1, g, x2, x3, x4, x5⟩ = true then loopP l (some x1) (if thereC l ⟨x1, g, x2, x3, x4, x5⟩ = true then ei else 4) (p.drop (k + 1 + 1)) else 3) = R) := Lib.hid (by rw [← HI4.out, show decide (z1 < x1) = true from decide_eq_true (by omega)]; simp)
          clear HI4
          go_wp2_with (fail)
          go_quiet (fail)
          cases g with
          | true =>
            cases hz : beqV ⟨x2, x3, x4, x5⟩ ⟨0, 0, 0, ⟨#[]⟩⟩ with
            | false =>
              have hok : okC ⟨x1, true, x2, x3, x4, x5⟩ = false := hz
              have HOK := Lib.hid hok
              clear hok
              go_wp2_with (fail)
              go_ret
              exact ⟨ret_int (by rw [← HI3.out]; rw [HOK.out]; rfl), y5.trans (ext_drew _ _ |>.mono (y5.size))⟩
            | true =>
              have hok : okC ⟨x1, true, x2, x3, x4, x5⟩ = true := hz
              have HOK := Lib.hid hok
              clear hok
              have HTH : Hid (thereC l ⟨x1, true, x2, x3, x4, x5⟩ = q) := Lib.hid (by unfold thereC; rw [HQ2.out]; simp)
              cases q with
              | false =>
                go_wp2_with (fail)
                go_roundg (n - ((k + 1) + 1))
                case measure => have := HG.out; omega
                case rel => exact ⟨(k + 1) + 1, 4, by omega, rfl, rfl, by go_num, y5.trans ((ext_drew _ _).mono y5.size), Lib.hid (by rw [← HI3.out, if_neg (show ¬ ((k + 1) + 1 = 0) by omega), Nat.add_sub_cancel, HX.out]; rw [HOK.out, HTH.out]; rfl)⟩
              | true =>
                go_wp2_with (fail)
                go_roundg (n - ((k + 1) + 1))
                case measure => have := HG.out; omega
                case rel => exact ⟨(k + 1) + 1, ei, by omega, rfl, rfl, by go_num, y5.trans ((ext_drew _ _).mono y5.size), Lib.hid (by rw [← HI3.out, if_neg (show ¬ ((k + 1) + 1 = 0) by omega), Nat.add_sub_cancel, HX.out]; rw [HOK.out, HTH.out]; rfl)⟩
          | false =>
            go_wp2_with (go_at_call 63; refine Hid.out ?_)
            refine Lib.hid ?_
            refine (mayV_any x2 x3 x4 x5 _ f0 f1 ?tb).mono ?_
            case tb => exact tabs_at hT y5 rfl
            rintro e w6 ⟨rfl, y6⟩
            have HOK : Hid (okC ⟨x1, false, x2, x3, x4, x5⟩ = mayV ⟨x2, x3, x4, x5⟩) := Lib.hid rfl
            generalize mayV ⟨x2, x3, x4, x5⟩ = M at HOK ⊢
            have yy6 := below_at y5 y6 rfl rfl rfl rfl
            have hk6 := kept1 HK5.out y6 rfl
            have HS6 := Lib.hid (Sch.at_ HS5.out y6 rfl)
            clear b0 b1 b2 b3 b4 b5
            obtain ⟨b0, b1, b2, b3, b4, b5⟩ := box_ch hk6
            clear hk6
            cases M with
            | false =>
              go_wp2_with (fail)
              go_ret
              exact ⟨ret_int (by rw [← HI3.out]; rw [HOK.out]; rfl), yy6⟩
            | true =>
              cases q with
              | false =>
                have HTH : Hid (thereC l ⟨x1, false, x2, x3, x4, x5⟩ = false) := Lib.hid (by unfold thereC; rw [HQ2.out]; rfl)
                go_wp2_with (fail)
                go_roundg (n - ((k + 1) + 1))
                case measure => have := HG.out; omega
                case rel => exact ⟨(k + 1) + 1, 4, by omega, rfl, rfl, by go_num, yy6, Lib.hid (by rw [← HI3.out, if_neg (show ¬ ((k + 1) + 1 = 0) by omega), Nat.add_sub_cancel, HX.out]; rw [HOK.out, HTH.out]; rfl)⟩
              | true =>
                have HTH : Hid (thereC l ⟨x1, false, x2, x3, x4, x5⟩ = fitsK l x1 ⟨x2, x3, x4, x5⟩) := Lib.hid (by unfold thereC; rw [HQ2.out]; rfl)
                go_wp2_with (go_at_call 64; refine Hid.out ?_)
                refine Lib.hid ?_
                refine (fitsS_any s l x1 x2 x3 x4 x5 _ ?sc f0 f1 ?tb).mono ?_
                case sc => exact HS6.out
                case tb => exact tabs_at hT yy6 rfl
                rintro e w7 ⟨rfl, y7⟩
                have yy7 := below_at yy6 y7 rfl rfl rfl rfl
                generalize fitsK l x1 ⟨x2, x3, x4, x5⟩ = F at HTH ⊢
                cases F with
                | false =>
                  go_wp2_with (fail)
                  go_roundg (n - ((k + 1) + 1))
                  case measure => have := HG.out; omega
                  case rel => exact ⟨(k + 1) + 1, 4, by omega, rfl, rfl, by go_num, yy7, Lib.hid (by rw [← HI3.out, if_neg (show ¬ ((k + 1) + 1 = 0) by omega), Nat.add_sub_cancel, HX.out]; rw [HOK.out, HTH.out]; rfl)⟩
                | true =>
                  go_wp2_with (fail)
                  go_roundg (n - ((k + 1) + 1))
                  case measure => have := HG.out; omega
                  case rel => exact ⟨(k + 1) + 1, ei, by omega, rfl, rfl, by go_num, yy7, Lib.hid (by rw [← HI3.out, if_neg (show ¬ ((k + 1) + 1 = 0) by omega), Nat.add_sub_cancel, HX.out]; rw [HOK.out, HTH.out]; rfl)⟩
    · have hmn : m = n := by omega
      go_wp2_with (fail)
      go_ret
      refine ⟨ret_int ?_, y⟩
      rw [← HI.out, List.drop_eq_nil_of_le (by have := N.out; omega)]
      rfl
theorem mayP_any (s : Nat) (l : List Ky) (A : Option Addr) (n c : Nat) (p : List Ch) (w : World) (hn : n = p.length) (h : RdCh w w.heap.size A p) (hb : n ≤ 140737488355328) (hS : Sch w s l) (hv : okVs p) (hT : Lib.Utf8Tabs 1 2 w) :
    Calls Tryd.prog 110 #[.pointer (some ⟨s, 0, none⟩), .slice A n c] w fun e w' => e = .returned (.int .i64 (mayP l p)) ∧ Below w.heap.size w w' :=
  mayPc_any s l A n c p w hn h hb hS (fun c hc => (hv c hc).1) hT
end Go.Proofs.YtipoeidmblnbbaaDoor
/- What an index of a first hit says. -/
namespace Go.Proofs.YtipoeidmblnbbaaDoor
def IdxOut {α : Type} (pr : α → Bool) (l : List α) (i : Int) : Prop :=
  (i = -1 ∧ ∀ x ∈ l, pr x = false) ∨ ∃ j : Nat, i = j ∧ j < l.length ∧ (∀ x ∈ l.take j, pr x = false) ∧ ∃ x, l[j]? = some x ∧ pr x = true
end Go.Proofs.YtipoeidmblnbbaaDoor
/- The walks of ops.form, ops.one and ops.May. -/
namespace Go.Proofs.YtipoeidmblnbbaaDoor
open Go.RowKit
set_option linter.unusedVariables false
set_option linter.unusedSimpArgs false

set_option maxHeartbeats 400000 in
theorem formCl_any (r : Int) (w : World) : Calls Tryd.prog 124 #[.int .i32 r] w fun e w' => e = .returned (.bool (!mayR r)) ∧ w = w' := by
  go_enter Tryd.func124, Tryd.ntmps124
  go_wp2_with (go_at_call 32; refine Hid.out ?_)
  refine Lib.hid ?_
  refine (may_any r w).mono ?_
  rintro e w' ⟨rfl, rfl⟩
  go_wp2_with (fail)
  go_ret
  exact ⟨rfl, rfl⟩

set_option maxRecDepth 100000 in
set_option maxHeartbeats 400000 in
theorem indexR_any (A : Option Addr) (n c : Nat) (l : List Int) (w : World) (hn : n = l.length) (h : RdI32 w w.heap.size A l) (hb : n ≤ 140737488355328) :
    Calls Tryd.prog 129 #[.slice A n c, .func (.func 124) #[] #[]] w fun e w' => ∃ i : Int, e = .returned (.int .i64 i) ∧ IdxOut (fun r => !mayR r) l i ∧ w = w' := by
  have N := Lib.hid hn
  clear hn
  go_enter Tryd.func129, Tryd.ntmps129
  go_wp2_with (fail)
  go_loopg [8] n (fun g iv wr => ∃ i : Nat, i ≤ n ∧ g = n - i ∧ iv = .int .i64 i ∧ w = wr ∧ Hid (∀ x ∈ l.take i, (!mayR x) = false))
  case atStart => exact ⟨0, by omega, rfl, rfl, rfl, Lib.hid (by simp)⟩
  case round =>
    obtain ⟨i, hi, hg, rfl, rfl, HI⟩ := hrel
    have HG := Lib.hid hg
    clear hg
    by_cases hlt : i < n
    · have hil : i < l.length := by have := N.out; omega
      obtain ⟨ad, x, rfl, _, _, hx, hc1⟩ := h.el hil
      have HT : Hid (l.take (i + 1) = l.take i ++ [x]) := Lib.hid (by rw [List.take_add_one, hx]; rfl)
      have HX := Lib.hid hx
      have r0 := hc1 0 _ rfl
      rw [add_zero', Nat.mul_one] at r0
      clear hx hil hc1
      have hw2 : IntKind.i64.wrap ((i:Int) + 1) = (i : Int) + 1 := IntWalk.i64_in _ (by omega)
      cases hp : mayR x with
      | false =>
        have HP := Lib.hid hp
        clear hp
        go_wp2_with (go_at_call 124; refine Hid.out ?_)
        refine Lib.hid ?_
        refine (formCl_any x w).mono ?_
        rintro e w' ⟨rfl, rfl⟩
        rw [HP.out]
        go_wp2_with (fail)
        go_ret
        exact ⟨i, rfl, .inr ⟨i, rfl, by have := N.out; omega, HI.out, _, HX.out, by show (!mayR x) = true; rw [HP.out]; rfl⟩, rfl⟩
      | true =>
        have HP := Lib.hid hp
        clear hp
        go_wp2_with (go_at_call 124; refine Hid.out ?_)
        refine Lib.hid ?_
        refine (formCl_any x w).mono ?_
        rintro e w' ⟨rfl, rfl⟩
        rw [HP.out]
        go_wp2_with (fail)
        go_roundg (n - (i + 1))
        case measure => have := HG.out; omega
        case rel =>
          refine ⟨i + 1, by omega, rfl, by go_num, rfl, Lib.hid ?_⟩
          intro y hy
          rw [HT.out] at hy
          rcases List.mem_append.1 hy with hy | hy
          · exact HI.out y hy
          · simp at hy; rw [hy, HP.out]; rfl
    · go_wp2_with (fail)
      go_ret
      refine ⟨-1, rfl, .inl ⟨rfl, ?_⟩, rfl⟩
      have h1 := HI.out
      rw [List.take_of_length_le (by have := N.out; omega)] at h1
      exact h1

theorem idx_any {α : Type} {pr : α → Bool} {l : List α} {i : Int} (h : IdxOut pr l i) : decide (0 ≤ i) = l.any pr := by
  rcases h with ⟨rfl, h⟩ | ⟨j, rfl, hj, _, x, hx, hp⟩
  · have : l.any pr = false := List.any_eq_false.2 (fun x hx => by simp [h x hx])
    rw [this]; rfl
  · have : l.any pr = true := List.any_eq_true.2 ⟨x, List.mem_of_getElem? hx, hp⟩
    rw [this]
    simp
set_option maxHeartbeats 400000 in
theorem containsR_any (A : Option Addr) (n c : Nat) (l : List Int) (w : World) (hn : n = l.length) (h : RdI32 w w.heap.size A l) (hb : n ≤ 140737488355328) :
    Calls Tryd.prog 123 #[.slice A n c, .func (.func 124) #[] #[]] w fun e w' => e = .returned (.bool (l.any (fun r => !mayR r))) ∧ w = w' := by
  have N := Lib.hid hn
  clear hn
  generalize hr : l.any (fun r => !mayR r) = r
  have HR := Lib.hid hr
  clear hr
  go_enter Tryd.func123, Tryd.ntmps123
  go_wp2_with (go_at_call 129; refine Hid.out ?_)
  refine Lib.hid ?_
  refine (indexR_any A n c l w N.out h hb).mono ?_
  rintro e w1 ⟨i, rfl, hi, rfl⟩
  have hd := idx_any hi
  rw [HR.out] at hd
  clear hi
  go_wp2_with (fail)
  go_ret
  exact ⟨by first | rfl | exact ret_bool hd, rfl⟩

/-- has an op the form of its kind? -/
def formO (o : Opd) : Bool :=
  if o.k = 1 then decide (o.r.length = 0 ∧ o.s.length = 0)
  else if o.k = 3 then decide ((o.r.length = 0 ∧ o.s.length = 0) ∧ o.p.length = 0)
  else if o.k = 2 then decide (o.n = 0 ∧ o.p.length = 0) && !o.r.any (fun r => !mayR r)
  else false

set_option maxRecDepth 100000 in
set_option maxHeartbeats 1600000 in
theorem formO_any (k n : Int) (Ar As Ap : Option Addr) (r : List Int) (s : List At) (p : List Ch) (cr cs cp : Nat) (w : World) (h : RdI32 w w.heap.size Ar r) (hb : r.length ≤ 140737488355328) :
    Calls Tryd.prog 108 #[.agg #[.int .u8 k, .int .i64 n, .slice Ar r.length cr, .slice As s.length cs, .slice Ap p.length cp]] w fun e w' => e = .returned (.bool (formO ⟨k, n, r, s, p⟩)) ∧ Below w.heap.size w w' := by
  have y0 := ext_alloc w (.cells #[.int .u8 k, .int .i64 n, .slice Ar r.length cr, .slice As s.length cs, .slice Ap p.length cp] 45)
  have HH := Lib.hid (h.ext y0)
  obtain ⟨R, hR⟩ : ∃ X, formO ⟨k, n, r, s, p⟩ = X := ⟨_, rfl⟩
  rw [hR]
  unfold formO at hR
  have HR := Lib.hid hR
  obtain ⟨nr, hnr⟩ : ∃ X, r.length = X := ⟨_, rfl⟩
  obtain ⟨ns, hns⟩ : ∃ X, s.length = X := ⟨_, rfl⟩
  obtain ⟨np, hnp⟩ : ∃ X, p.length = X := ⟨_, rfl⟩
  have NR := Lib.hid hnr
  have NS := Lib.hid hns
  have NP := Lib.hid hnp
  rw [hnr, hns, hnp]
  rw [hnr, hns, hnp] at y0 HH
  rw [hnr] at hb
  clear hR hnr hns hnp h
  rcases Nat.eq_zero_or_pos nr with e1 | e1
  · subst e1
    rcases Nat.eq_zero_or_pos ns with e2 | e2
    · subst e2
      by_cases k1 : k = 1
      · subst k1
        go_enter Tryd.func108, Tryd.ntmps108
        go_wp2_with (fail)
        go_ret
        exact ⟨ret_bool (by rw [← HR.out]; simp only [NR.out, NS.out, NP.out]; first | (simp; done) | (simp <;> omega)), y0⟩
      have kb1 : (k == 1) = false := beq_eq_false_iff_ne.2 k1
      by_cases k3 : k = 3
      · subst k3
        by_cases hp : np = 0
        · subst hp
          go_enter Tryd.func108, Tryd.ntmps108
          go_wp2_with (fail)
          go_ret
          exact ⟨ret_bool (by rw [← HR.out]; simp only [NR.out, NS.out, NP.out]; first | (simp; done) | (simp <;> omega)), y0⟩
        · have hpb : ((np : Int) == 0) = false := beq_eq_false_iff_ne.2 (by omega)
          go_enter Tryd.func108, Tryd.ntmps108
          go_wp2_with (fail)
          go_ret
          exact ⟨ret_bool (by rw [← HR.out]; simp only [NR.out, NS.out, NP.out]; first | (simp [hp]; done) | (simp [hp] <;> omega)), y0⟩
      have kb3 : (k == 3) = false := beq_eq_false_iff_ne.2 k3
      by_cases k2 : k = 2
      · subst k2
        by_cases hn : n = 0
        · subst hn
          by_cases hp : np = 0
          · subst hp
            go_enter Tryd.func108, Tryd.ntmps108
            go_wp2_with (go_at_call 123; refine Hid.out ?_)
            refine Lib.hid ?_
            refine (containsR_any Ar _ cr r _ ?hn HH.out (by omega)).mono ?_
            case hn => first | exact NR.out.symm | (have := NR.out; omega)
            rintro e w' ⟨rfl, rfl⟩
            generalize hca : r.any (fun r => !mayR r) = C
            have HCA := Lib.hid hca
            clear hca
            go_wp2_with (fail)
            go_ret
            exact ⟨ret_bool (by rw [← HR.out]; simp [NP.out, HCA.out]), y0⟩
          · have hpb : ((np : Int) == 0) = false := beq_eq_false_iff_ne.2 (by omega)
            go_enter Tryd.func108, Tryd.ntmps108
            go_wp2_with (fail)
            go_ret
            exact ⟨ret_bool (by rw [← HR.out]; simp only [NR.out, NS.out, NP.out]; first | (simp [hp]; done) | (simp [hp] <;> omega)), y0⟩
        · have hnb : (n == 0) = false := beq_eq_false_iff_ne.2 hn
          go_enter Tryd.func108, Tryd.ntmps108
          go_wp2_with (fail)
          go_ret
          exact ⟨ret_bool (by rw [← HR.out]; simp only [NR.out, NS.out, NP.out]; first | (simp [hn]; done) | (simp [hn] <;> omega)), y0⟩
      have kb2 : (k == 2) = false := beq_eq_false_iff_ne.2 k2
      have HK1 := Lib.hid k1
      have HK2 := Lib.hid k2
      have HK3 := Lib.hid k3
      clear k1 k2 k3
      go_enter Tryd.func108, Tryd.ntmps108
      go_wp2_with (fail)
      go_ret
      exact ⟨ret_bool (by rw [← HR.out]; simp [HK1.out, HK2.out, HK3.out]), y0⟩
    · have hs0 : (0 : Int) < (ns : Int) := by omega
      by_cases k1 : k = 1
      · subst k1
        go_enter Tryd.func108, Tryd.ntmps108
        go_wp2_with (fail)
        go_ret
        exact ⟨ret_bool (by rw [← HR.out]; simp only [NR.out, NS.out, NP.out]; first | (simp; done) | (simp <;> omega)), y0⟩
      have kb1 : (k == 1) = false := beq_eq_false_iff_ne.2 k1
      by_cases k3 : k = 3
      · subst k3
        by_cases hp : np = 0
        · subst hp
          go_enter Tryd.func108, Tryd.ntmps108
          go_wp2_with (fail)
          go_ret
          exact ⟨ret_bool (by rw [← HR.out]; simp only [NR.out, NS.out, NP.out]; first | (simp; done) | (simp <;> omega)), y0⟩
        · have hpb : ((np : Int) == 0) = false := beq_eq_false_iff_ne.2 (by omega)
          go_enter Tryd.func108, Tryd.ntmps108
          go_wp2_with (fail)
          go_ret
          exact ⟨ret_bool (by rw [← HR.out]; simp only [NR.out, NS.out, NP.out]; first | (simp [hp]; done) | (simp [hp] <;> omega)), y0⟩
      have kb3 : (k == 3) = false := beq_eq_false_iff_ne.2 k3
      by_cases k2 : k = 2
      · subst k2
        by_cases hn : n = 0
        · subst hn
          by_cases hp : np = 0
          · subst hp
            go_enter Tryd.func108, Tryd.ntmps108
            go_wp2_with (go_at_call 123; refine Hid.out ?_)
            refine Lib.hid ?_
            refine (containsR_any Ar _ cr r _ ?hn HH.out (by omega)).mono ?_
            case hn => first | exact NR.out.symm | (have := NR.out; omega)
            rintro e w' ⟨rfl, rfl⟩
            generalize hca : r.any (fun r => !mayR r) = C
            have HCA := Lib.hid hca
            clear hca
            go_wp2_with (fail)
            go_ret
            exact ⟨ret_bool (by rw [← HR.out]; simp [NP.out, HCA.out]), y0⟩
          · have hpb : ((np : Int) == 0) = false := beq_eq_false_iff_ne.2 (by omega)
            go_enter Tryd.func108, Tryd.ntmps108
            go_wp2_with (fail)
            go_ret
            exact ⟨ret_bool (by rw [← HR.out]; simp only [NR.out, NS.out, NP.out]; first | (simp [hp]; done) | (simp [hp] <;> omega)), y0⟩
        · have hnb : (n == 0) = false := beq_eq_false_iff_ne.2 hn
          go_enter Tryd.func108, Tryd.ntmps108
          go_wp2_with (fail)
          go_ret
          exact ⟨ret_bool (by rw [← HR.out]; simp only [NR.out, NS.out, NP.out]; first | (simp [hn]; done) | (simp [hn] <;> omega)), y0⟩
      have kb2 : (k == 2) = false := beq_eq_false_iff_ne.2 k2
      have HK1 := Lib.hid k1
      have HK2 := Lib.hid k2
      have HK3 := Lib.hid k3
      clear k1 k2 k3
      go_enter Tryd.func108, Tryd.ntmps108
      go_wp2_with (fail)
      go_ret
      exact ⟨ret_bool (by rw [← HR.out]; simp [HK1.out, HK2.out, HK3.out]), y0⟩
  · have hr0 : (0 : Int) < (nr : Int) := by omega
    by_cases k1 : k = 1
    · subst k1
      go_enter Tryd.func108, Tryd.ntmps108
      go_wp2_with (fail)
      go_ret
      exact ⟨ret_bool (by rw [← HR.out]; simp only [NR.out, NS.out, NP.out]; first | (simp; done) | (simp <;> omega)), y0⟩
    have kb1 : (k == 1) = false := beq_eq_false_iff_ne.2 k1
    by_cases k3 : k = 3
    · subst k3
      by_cases hp : np = 0
      · subst hp
        go_enter Tryd.func108, Tryd.ntmps108
        go_wp2_with (fail)
        go_ret
        exact ⟨ret_bool (by rw [← HR.out]; simp only [NR.out, NS.out, NP.out]; first | (simp; done) | (simp <;> omega)), y0⟩
      · have hpb : ((np : Int) == 0) = false := beq_eq_false_iff_ne.2 (by omega)
        go_enter Tryd.func108, Tryd.ntmps108
        go_wp2_with (fail)
        go_ret
        exact ⟨ret_bool (by rw [← HR.out]; simp only [NR.out, NS.out, NP.out]; first | (simp [hp]; done) | (simp [hp] <;> omega)), y0⟩
    have kb3 : (k == 3) = false := beq_eq_false_iff_ne.2 k3
    by_cases k2 : k = 2
    · subst k2
      by_cases hn : n = 0
      · subst hn
        by_cases hp : np = 0
        · subst hp
          go_enter Tryd.func108, Tryd.ntmps108
          go_wp2_with (go_at_call 123; refine Hid.out ?_)
          refine Lib.hid ?_
          refine (containsR_any Ar _ cr r _ ?hn HH.out (by omega)).mono ?_
          case hn => first | exact NR.out.symm | (have := NR.out; omega)
          rintro e w' ⟨rfl, rfl⟩
          generalize hca : r.any (fun r => !mayR r) = C
          have HCA := Lib.hid hca
          clear hca
          go_wp2_with (fail)
          go_ret
          exact ⟨ret_bool (by rw [← HR.out]; simp [NP.out, HCA.out]), y0⟩
        · have hpb : ((np : Int) == 0) = false := beq_eq_false_iff_ne.2 (by omega)
          go_enter Tryd.func108, Tryd.ntmps108
          go_wp2_with (fail)
          go_ret
          exact ⟨ret_bool (by rw [← HR.out]; simp only [NR.out, NS.out, NP.out]; first | (simp [hp]; done) | (simp [hp] <;> omega)), y0⟩
      · have hnb : (n == 0) = false := beq_eq_false_iff_ne.2 hn
        go_enter Tryd.func108, Tryd.ntmps108
        go_wp2_with (fail)
        go_ret
        exact ⟨ret_bool (by rw [← HR.out]; simp only [NR.out, NS.out, NP.out]; first | (simp [hn]; done) | (simp [hn] <;> omega)), y0⟩
    have kb2 : (k == 2) = false := beq_eq_false_iff_ne.2 k2
    have HK1 := Lib.hid k1
    have HK2 := Lib.hid k2
    have HK3 := Lib.hid k3
    clear k1 k2 k3
    go_enter Tryd.func108, Tryd.ntmps108
    go_wp2_with (fail)
    go_ret
    exact ⟨ret_bool (by rw [← HR.out]; simp [HK1.out, HK2.out, HK3.out]), y0⟩
end Go.Proofs.YtipoeidmblnbbaaDoor
/- slices.IndexFunc and slices.DeleteFunc at the closure of attrs.Part. -/
namespace Go.Proofs.YtipoeidmblnbbaaDoor
open Go.RowKit
set_option linter.unusedVariables false
set_option linter.unusedSimpArgs false

set_option maxRecDepth 100000 in
set_option maxHeartbeats 400000 in
theorem indexPartA_any (b1 b2 : Nat) (pr : At → Bool) (A : Option Addr) (n c : Nat) (l : List At) (w : World) (hn : n = l.length) (h : RdAt w w.heap.size A l) (hb : n ≤ 140737488355328)
    (hcl : ∀ (x1 x2 x3 x4 : Int) (x5 : ByteArray) (w' : World), Below w.heap.size w w' → Calls Tryd.prog 67 #[.agg #[.int .i64 x1, .int .u8 x2, .int .i64 x3, .int .u64 x4, .string x5], .pointer (some ⟨b1, 0, none⟩), .pointer (some ⟨b2, 0, none⟩)] w' fun e w'' => e = .returned (.bool (pr ⟨x1, ⟨x2, x3, x4, x5⟩⟩)) ∧ Below w'.heap.size w' w'') :
    Calls Tryd.prog 104 #[.slice A n c, .func (.func 67) #[] #[.pointer (some ⟨b1, 0, none⟩), .pointer (some ⟨b2, 0, none⟩)]] w fun e w' => ∃ i : Int, e = .returned (.int .i64 i) ∧ IdxOut pr l i ∧ Below w.heap.size w w' := by
  have N := Lib.hid hn
  have HCL := Lib.hid hcl
  clear hn hcl
  go_enter Tryd.func104, Tryd.ntmps104
  go_wp2_with (fail)
  go_loopg [8] n (fun g iv wr => ∃ i : Nat, i ≤ n ∧ g = n - i ∧ iv = .int .i64 i ∧ Below w.heap.size w wr ∧ Hid (∀ x ∈ l.take i, pr x = false))
  case atStart => exact ⟨0, by omega, rfl, rfl, Below.refl _ _, Lib.hid (by simp)⟩
  case round =>
    obtain ⟨i, hi, hg, rfl, hbw, HI⟩ := hrel
    have HG := Lib.hid hg
    clear hg
    by_cases hlt : i < n
    · have hil : i < l.length := by have := N.out; omega
      obtain ⟨ad, x, rfl, _, _, hx, hc1⟩ := (h.below hbw (Nat.le_refl _)).el hil
      have HT : Hid (l.take (i + 1) = l.take i ++ [x]) := Lib.hid (by rw [List.take_add_one, hx]; rfl)
      have HX := Lib.hid hx
      clear hx hil
      obtain ⟨x1, x2, x3, x4, x5⟩ := x
      obtain ⟨r0, r1, r2, r3, r4⟩ := at_cells hc1
      clear hc1
      by_cases hp : pr ⟨x1, ⟨x2, x3, x4, x5⟩⟩ = true
      · go_wp2_with (go_at_call 67; refine (HCL.out _ _ _ _ _ _ hbw).mono ?_; rintro e w' ⟨rfl, hb'⟩)
        go_ret
        exact ⟨i, rfl, .inr ⟨i, rfl, by have := N.out; omega, HI.out, _, HX.out, hp⟩, hbw.trans (hb'.mono hbw.size)⟩
      · have hp' : pr ⟨x1, ⟨x2, x3, x4, x5⟩⟩ = false := by simpa using hp
        clear hp
        go_wp2_with (go_at_call 67; refine (HCL.out _ _ _ _ _ _ hbw).mono ?_; rintro e w' ⟨rfl, hb'⟩)
        have hbw' := hbw.trans (hb'.mono hbw.size)
        go_roundg (n - (i + 1))
        case measure => have := HG.out; omega
        case rel =>
          refine ⟨i + 1, by omega, rfl, by go_num, hbw', Lib.hid ?_⟩
          intro y hy
          rw [HT.out] at hy
          rcases List.mem_append.1 hy with hy | hy
          · exact HI.out y hy
          · simp at hy; rw [hy]; exact hp'
    · go_wp2_with (fail)
      go_ret
      refine ⟨-1, rfl, .inl ⟨rfl, ?_⟩, hbw⟩
      have h1 := HI.out
      rw [List.take_of_length_le (by have := N.out; omega)] at h1
      exact h1

set_option maxRecDepth 100000 in
set_option maxHeartbeats 1000000 in
theorem deletePartA_any (b1 b2 : Nat) (pr : At → Bool) (A : Option Addr) (n c base : Nat) (l : List At) (w : World) (hown : OwAt w base (.slice A n c) l) (hbase : base ≤ w.heap.size) (hb : n ≤ 100000000) (hn : n = l.length)
    (hcl : ∀ (x1 x2 x3 x4 : Int) (x5 : ByteArray) (w' : World), Below base w w' → Calls Tryd.prog 67 #[.agg #[.int .i64 x1, .int .u8 x2, .int .i64 x3, .int .u64 x4, .string x5], .pointer (some ⟨b1, 0, none⟩), .pointer (some ⟨b2, 0, none⟩)] w' fun e w'' => e = .returned (.bool (pr ⟨x1, ⟨x2, x3, x4, x5⟩⟩)) ∧ Below w'.heap.size w' w'') :
    Calls Tryd.prog 65 #[.slice A n c, .func (.func 67) #[] #[.pointer (some ⟨b1, 0, none⟩), .pointer (some ⟨b2, 0, none⟩)]] w fun e w' =>
      ∃ A' c', e = .returned (.slice A' (l.filter (fun x => !pr x)).length c') ∧ OwAt w' base (.slice A' (l.filter (fun x => !pr x)).length c') (l.filter (fun x => !pr x)) ∧ Below base w w' := by
  have N := Lib.hid hn
  have HCL := Lib.hid hcl
  have hcap := hown.cap
  have hlc : n ≤ c := by rw [hn]; exact hcap.1
  have hcm : c ≤ 2 ^ 63 - 1 := hcap.2
  clear hn hcl hcap
  generalize hR : l.filter (fun x => !pr x) = R
  have HR := Lib.hid hR
  clear hR
  go_enter Tryd.func65, Tryd.ntmps65
  go_wp2_with (go_at_call 104; refine Hid.out ?_)
  refine Lib.hid ?_
  refine (indexPartA_any b1 b2 pr A n c l w N.out (hown.rd At.enc_len) (by omega) (fun x1 x2 x3 x4 x5 w' hb' => HCL.out x1 x2 x3 x4 x5 w' (hb'.mono hbase))).mono ?_
  rintro e w1 ⟨ix, rfl, hix, hb1⟩
  have hbw1 : Below base w w1 := hb1.mono hbase
  have hown1 := hown.below hb1 (Nat.le_refl _)
  have hbase1 : base ≤ w1.heap.size := Nat.le_trans hbase hb1.size
  clear hown hb1
  rcases hix with ⟨rfl, hall⟩ | ⟨i0, rfl, hi0, hpre, x0, hx0, hpx0⟩
  · have hRl : R = l := by
      rw [← HR.out]
      exact List.filter_eq_self.2 (fun x hx => by simp [hall x hx])
    have HRL := Lib.hid hRl
    clear hRl hall
    go_wp2_with (fail)
    go_ret
    refine ⟨A, c, ?_, ?_, hbw1⟩
    · rw [HRL.out, ← N.out]; rfl
    · rw [HRL.out, ← N.out]; exact hown1
  · have hne : ((i0 : Int) == -1) = false := beq_eq_false_iff_ne.2 (by omega)
    have hi0n : i0 < n := by rw [N.out]; exact hi0
    have hst : Hid (l.take i0 = (l.take (i0 + 1)).filter (fun x => !pr x)) := Lib.hid (by
      rw [List.take_add_one, hx0, List.filter_append, List.filter_eq_self.2 (fun x hx => by simp [hpre x hx])]
      simp [hpx0])
    clear hpre hx0 hpx0 hi0
    go_wp2_with (fail)
    go_loopg [5, 6] (n - (i0 + 1)) (fun g iv jv wr => ∃ (i j : Nat) (m : List At), i < j ∧ j ≤ n ∧ g = n - j ∧ iv = .int .i64 i ∧ jv = .int .i64 j ∧ OwAt wr base (.slice A n c) m ∧ base ≤ wr.heap.size ∧ Below base w wr ∧
      Hid (m.length = n ∧ m.drop j = l.drop j ∧ m.take i = (l.take j).filter (fun x => !pr x)))
    case atStart => exact ⟨i0, i0 + 1, l, by omega, by omega, rfl, rfl, by go_num, hown1, hbase1, hbw1, Lib.hid ⟨N.out.symm, rfl, hst.out⟩⟩
    case round =>
      clear hown1 hbase1 hbw1 hst hne hi0n
      obtain ⟨i, j, m, hij, hj, hg, rfl, rfl, hown, hbs, hbw, HI⟩ := hrel
      have HG := Lib.hid hg
      clear hg
      by_cases hlt : j < n
      · have hjm : j < m.length := by have := HI.out.1; omega
        obtain ⟨ad, x, rfl, _, hdm, hx, hc1⟩ := (hown.rd At.enc_len).el hjm
        have HX : Hid (l.take (j + 1) = l.take j ++ [x] ∧ m.drop (j + 1) = l.drop (j + 1)) := Lib.hid (by
          obtain ⟨h1, h2, h3⟩ := HI.out
          have h4 : l[j]? = some x := by
            have := congrArg (fun t => t[0]?) h2
            simp only [List.getElem?_drop, Nat.add_zero] at this
            rw [← this, hx]
          refine ⟨by rw [List.take_add_one, h4]; rfl, ?_⟩
          have := congrArg (fun t => t.drop 1) h2
          simpa [List.drop_drop] using this)
        clear hdm hx hjm
        obtain ⟨x1, x2, x3, x4, x5⟩ := x
        obtain ⟨r0, r1, r2, r3, r4⟩ := at_cells hc1
        clear hc1
        have hbx0 := heap_alloc_new wr (.cells #[.int .i64 x1, .int .u8 x2, .int .i64 x3, .int .u64 x4, .string x5] 58)
        have hbwA := hbw.alloc hbs (.cells #[.int .i64 x1, .int .u8 x2, .int .i64 x3, .int .u64 x4, .string x5] 58)
        have hownA := hown.alloc (.cells #[.int .i64 x1, .int .u8 x2, .int .i64 x3, .int .u64 x4, .string x5] 58)
        have hsz := size_alloc' wr (.cells #[.int .i64 x1, .int .u8 x2, .int .i64 x3, .int .u64 x4, .string x5] 58)
        have hwbA : ∀ k, wb (.slice (some ad) n c) = some k → k < wr.heap.size := fun k hk => (hown.wb_lt k hk).2
        by_cases hp : pr ⟨x1, ⟨x2, x3, x4, x5⟩⟩ = true
        · have HBX0 := Lib.hid hbx0
          have HWB := Lib.hid hwbA
          have HSZ := Lib.hid hsz
          clear hbx0 hwbA hsz
          go_wp2_with (go_at_call 67; refine (HCL.out _ _ _ _ _ _ hbwA).mono ?_; rintro e w2 ⟨rfl, hb2⟩)
          have hbw2 : Below base w w2 := hbwA.trans (hb2.mono (by rw [← HSZ.out]; omega))
          have hown2 := hownA.below hb2 (Nat.le_refl _)
          have hbs2 : base ≤ w2.heap.size := by have := hb2.size; rw [← HSZ.out] at this; omega
          go_roundg (n - (j + 1))
          case measure => have := HG.out; omega
          case rel =>
            obtain ⟨h1, h2, h3⟩ := HI.out
            obtain ⟨h4, h5⟩ := HX.out
            exact ⟨i, j + 1, m, by omega, by omega, rfl, rfl, by go_num, hown2, hbs2, hbw2, Lib.hid ⟨h1, h5, by rw [h4, List.filter_append, h3]; simp [hp]⟩⟩
        · have hp' : pr ⟨x1, ⟨x2, x3, x4, x5⟩⟩ = false := by simpa using hp
          clear hp
          have HBX0 := Lib.hid hbx0
          have HWB := Lib.hid hwbA
          have HSZ := Lib.hid hsz
          clear hbx0 hwbA hsz
          go_wp2_with (go_at_call 67; refine Hid.out ?_)
          refine Lib.hid ?_
          refine (HCL.out _ _ _ _ _ _ hbwA).mono ?_
          rintro e w2 ⟨rfl, hb2⟩
          have hbw2 : Below base w w2 := hbwA.trans (hb2.mono (by rw [← HSZ.out]; omega))
          have hown2 := hownA.below hb2 (Nat.le_refl _)
          have hbs2 : base ≤ w2.heap.size := by have := hb2.size; rw [← HSZ.out] at this; omega
          have hbx2 := (hb2.block wr.heap.size (by rw [← HSZ.out]; omega)).trans HBX0.out
          obtain ⟨b0, b1, b2, b3, b4⟩ := box_at hbx2
          have him : i < m.length := by have := HI.out.1; omega
          have hin : i < n := by omega
          clear hbx2
          obtain ⟨i1, hi1, hz1, hz2, hz3⟩ := info_parts Tryd.infoAt
          have I1 := Lib.hid hi1
          have Z2 := Lib.hid hz2
          clear hi1 hz1 hz2 hz3 hownA hbwA
          go_wp2_with (refine wpList_set_own rfl 58 (.tmp 33) (.tmp 32) rfl rfl i1 I1.out Z2.out At.enc_len At.enc_one hown2 him ⟨x1, ⟨x2, x3, x4, x5⟩⟩ (cs := #[.int .i64 x1, .int .u8 x2, .int .i64 x3, .int .u64 x4, .string x5]) rfl (p := ad.add (i * 5)) rfl rfl rfl ?_; intro w3 hown3 hg3)
          have hbw3 : Below base w w3 := hbw2.grown hg3 hbs2 (fun k hk => (hown2.wb_lt k hk).1)
          have hbs3 : base ≤ w3.heap.size := Nat.le_trans hbs2 hg3.size
          go_roundg (n - (j + 1))
          case measure => have := HG.out; omega
          case rel =>
            obtain ⟨h1, h2, h3⟩ := HI.out
            obtain ⟨h4, h5⟩ := HX.out
            refine ⟨i + 1, j + 1, m.set i ⟨x1, ⟨x2, x3, x4, x5⟩⟩, by omega, by omega, rfl, by go_num, by go_num, hown3, hbs3, hbw3, Lib.hid ⟨by rw [List.length_set]; exact h1, by rw [List.drop_set_of_lt (by omega)]; exact h5, ?_⟩⟩
            rw [h4, List.filter_append, List.take_add_one, List.getElem?_set_self him, List.take_set_of_le (Nat.le_refl i), h3]
            simp [hp']
      · have hjn : j = n := by omega
        have hm0 := HI.out
        obtain ⟨i1, hi1, hz1, hz2, hz3⟩ := info_parts Tryd.infoAt
        have I1 := Lib.hid hi1
        have Z1 := Lib.hid hz1
        have hmR : m.take i = R := by
          obtain ⟨h1, h2, h3⟩ := hm0
          rw [h3, ← HR.out, List.take_of_length_le (by have := N.out; omega)]
        have him : i ≤ m.length := by have := hm0.1; omega
        have hiR : i = R.length := by rw [← hmR, List.length_take, Nat.min_eq_left him]
        have HIR := Lib.hid hiR
        have HMR := Lib.hid hmR
        have HML : Hid (m.length = n) := Lib.hid hm0.1
        clear hi1 hz1 hz2 hz3 hmR hiR hm0 hjn
        rcases Nat.lt_or_ge i c with hci | hci
        · have hne : ¬ c = i := by omega
          go_wp2_with (refine wpList_clear_own (i := i) (X := A.map (fun x => x.add (i * 5))) rfl (.tmp 38) _ rfl rfl Tryd.slAt i1 _ I1.out Z1.out rfl (by intro u hu; exact At.enc_one ⟨0, V.zero⟩ u hu) At.enc_len hown him (by exact .inr rfl) (by rw [HML.out]) rfl ?_; intro w3 hown3 hg3)
          have hbw3 : Below base w w3 := hbw.grown hg3 hbs (fun k hk => (hown.wb_lt k hk).1)
          rw [HMR.out] at hown3
          have hri := HIR.out
          subst hri
          go_ret
          exact ⟨A, c, rfl, hown3, hbw3⟩
        · go_wp2_with (refine wpList_clear_own (i := i) (X := A) rfl (.tmp 38) _ rfl rfl Tryd.slAt i1 _ I1.out Z1.out rfl (by intro u hu; exact At.enc_one ⟨0, V.zero⟩ u hu) At.enc_len hown him (by have := HML.out; left; omega) (by rw [HML.out]) rfl ?_; intro w3 hown3 hg3)
          have hbw3 : Below base w w3 := hbw.grown hg3 hbs (fun k hk => (hown.wb_lt k hk).1)
          rw [HMR.out] at hown3
          have hri := HIR.out
          subst hri
          go_ret
          exact ⟨A, c, rfl, hown3, hbw3⟩
end Go.Proofs.YtipoeidmblnbbaaDoor
