/- Merged texts: PatchMayFn, PartsLaw, Units, MayDef, Class, ClassAt, AttrsMayFn, DelFn. -/
import Derived.Test.YtfnkjcodcoehcaaGreatDoorV8
import Derived.Test.YtfnkjcodcoehcaaGreatDoorV2
import Derived.Test.YtfnkjcodcoehcaaGreatDoorV7
import Derived.Test.YtfnkjcodcoehcaaGreatDoorV6
import Derived.Test.YtfnkjcodcoehcaaGreatDoorV1
namespace Go.Proofs.YtfnkjcodcoehcaaGreatDoor
open Go.RowKit
set_option linter.unusedVariables false
set_option linter.unusedSimpArgs false

theorem Sch.at_ {v W w' : World} {s : Nat} {l : List Ky} (h : Sch v s l) (y : Below W.heap.size W w') (e : W.heap = v.heap) : Sch w' s l := by
  have hc : ∀ p, W.cell? p = v.cell? p := fun p => by simp only [World.cell?, e]
  have h' : Sch W s l := by
    obtain ⟨bm, A, n, c, ls, hb, ⟨es, clock, hm, hk⟩, hn, hp, hs, hr⟩ := h
    exact ⟨bm, A, n, c, ls, by rw [e]; exact hb, ⟨es, clock, by rw [e]; exact hm, hk⟩, hn, hp, hs, by rw [e]; exact hr.keep fun p _ => hc p⟩
  exact h'.ext y

def okC (c : Ch) : Bool := if c.gone = true then beqV c.v V.zero else mayV c.v
def thereC (l : List Ky) (c : Ch) : Bool := (findK l c.key).isSome && (c.gone || fitsK l c.key c.v)
def mayP (l : List Ky) (p : List Ch) : Int := if 64 < p.length then 3 else if riseC p = true ∧ p.all okC = true then (if p.all (thereC l) = true then 0 else 4) else 3
def loopP (l : List Ky) : Option Int → Int → List Ch → Int
  | _, e, [] => e
  | prev, e, c :: r => if (prev.all (fun k => decide (k < c.key)) && okC c) = true then loopP l (some c.key) (if thereC l c = true then e else 4) r else 3
theorem loopP_some (l : List Ky) : ∀ (p : List Ch) (k : Int) (e : Int), loopP l (some k) e p = if rise (k :: p.map (·.key)) = true ∧ p.all okC = true then (if p.all (thereC l) = true then e else 4) else 3
  | [], k, e => by simp [loopP, rise]
  | c :: r, k, e => by
    unfold loopP
    rw [loopP_some l r c.key]
    by_cases h1 : k < c.key
    · by_cases h2 : okC c = true
      · by_cases h3 : thereC l c = true
        · simp [h1, h2, h3, rise]
        · have h3 : thereC l c = false := by simpa using h3
          simp [h1, h2, h3, rise]
      · have h2 : okC c = false := by simpa using h2
        simp [h1, h2]
    · simp [h1, rise]
theorem loopP_none (l : List Ky) (p : List Ch) (h : p.length ≤ 64) : loopP l none 0 p = mayP l p := by
  unfold mayP
  rw [if_neg (by omega)]
  cases p with
  | nil => simp [loopP, riseC, rise]
  | cons c r =>
    unfold loopP
    rw [loopP_some]
    by_cases h2 : okC c = true
    · by_cases h3 : thereC l c = true
      · simp [h2, h3, riseC]
      · have h3 : thereC l c = false := by simpa using h3
        simp [h2, h3, riseC]
    · have h2 : okC c = false := by simpa using h2
      simp [h2]
def okVc (p : List Ch) : Prop := ∀ c ∈ p, okV c.v
def okVs (p : List Ch) : Prop := ∀ c ∈ p, okV c.v ∧ c.v.s.size ≤ 100000000

set_option maxRecDepth 100000 in
set_option maxHeartbeats 3200000 in
theorem mayPc_any (s : Nat) (l : List Ky) (A : Option Addr) (n c : Nat) (p : List Ch) (w : World) (hn : n = p.length) (h : RdCh w w.heap.size A p) (hb : n ≤ 140737488355328) (hS : Sch w s l) (hv : okVc p) (hT : Lib.Utf8Tabs 1 2 w) :
    Calls Tryz.prog 135 #[.pointer (some ⟨s, 0, none⟩), .slice A n c] w fun e w' => e = .returned (.int .i64 (mayP l p)) ∧ Below w.heap.size w w' := by
  have N := Lib.hid hn
  generalize hR : mayP l p = R
  have HR := Lib.hid hR
  clear hn hR
  by_cases h64 : (64 : Int) < (n : Int)
  · go_enter Tryz.func135, Tryz.ntmps135
    go_wp2_with (fail)
    go_ret
    refine ⟨ret_int ?_, Below.refl _ _⟩
    rw [← HR.out]
    have := N.out
    unfold mayP
    rw [if_pos (by omega)]
  have HP : Hid (loopP l none 0 p = R) := Lib.hid (by rw [← HR.out]; exact loopP_none l p (by have := N.out; omega))
  go_enter Tryz.func135, Tryz.ntmps135
  go_wp2_with (fail)
  go_loopg [5, 15] n (fun g ev iv wr => ∃ (m : Nat) (ei : Int), m ≤ n ∧ g = n - m ∧ ev = .int .i64 ei ∧ iv = .int .i64 (m : Int) ∧ Below w.heap.size w wr ∧ Hid (loopP l (if m = 0 then none else (p[m - 1]?).map (·.key)) ei (p.drop m) = R))
  case atStart => exact ⟨0, 0, by omega, rfl, rfl, rfl, Below.refl _ _, Lib.hid (by rw [List.drop_zero]; exact HP.out)⟩
  case round =>
    obtain ⟨m, ei, hm, hg, rfl, rfl, y, HI⟩ := hrel
    have HG := Lib.hid hg
    clear hg HR HP
    by_cases hlt : m < n
    · have hl1 : m < p.length := by have := N.out; omega
      obtain ⟨ad, x, rfl, had, hd1, hx1, hc0⟩ := (h.below y (Nat.le_refl _)).el hl1
      have hxv := hv x (List.mem_of_getElem? hx1)
      obtain ⟨x1, g, x2, x3, x4, x5⟩ := x
      obtain ⟨r0, r1, r2, r3, r4, r5⟩ := ch_cells hc0
      obtain ⟨f0, f1⟩ : 0 ≤ x4 ∧ x4 < 18446744073709551616 := ⟨hxv.f0, hxv.f1⟩
      have HI2 : Hid ((if ((if m = 0 then none else (p[m - 1]?).map (·.key)).all (fun k => decide (k < x1)) && okC ⟨x1, g, x2, x3, x4, x5⟩) = true then loopP l (some x1) (if thereC l ⟨x1, g, x2, x3, x4, x5⟩ = true then ei else 4) (p.drop (m + 1)) else 3) = R) := Lib.hid (by
        rw [← HI.out, hd1]; rfl)
      have HX := Lib.hid hx1
      have y2 := ext_alloc wr (.cells #[.int .i64 x1, .bool g, .int .u8 x2, .int .i64 x3, .int .u64 x4, .string x5] 77)
      have hk2 := heap_alloc_new wr (.cells #[.int .i64 x1, .bool g, .int .u8 x2, .int .i64 x3, .int .u64 x4, .string x5] 77)
      have HK2 := Lib.hid hk2
      have HS2 := Lib.hid ((hS.ext y).ext y2)
      have HT2 := Lib.hid (Utf8Tabs_below (Utf8Tabs_below hT y) y2)
      clear hc0 hd1 hx1 HI hk2 hxv
      have hw2 : IntKind.i64.wrap ((m:Int) + 1) = (m : Int) + 1 := IntWalk.i64_in _ (by omega)
      go_wp2_with (go_at_call 62; refine Hid.out ?_)
      refine Lib.hid ?_
      generalize hw0 : wr.alloc _ = w0 at *
      clear hw0
      refine (findS_any s l x1 w0 HS2.out).mono ?_
      rintro e w3 ⟨k1, k2, k3, k4, k5, k6, q, rfl, hq1, hq2, y3⟩
      have HQ2 := Lib.hid hq2
      have y4 := ext_alloc w3 (.cells #[.int .i64 k1, .bool k2, .int .u8 k3, .bool k4, .bool k5, .int .i64 k6] 97)
      have hk5 := (y4.block _ (lt_of_some ((y3.block _ (lt_of_some HK2.out)).trans HK2.out))).trans ((y3.block _ (lt_of_some HK2.out)).trans HK2.out)
      have y5 := ext_trans y (ext_trans y2 (ext_trans y3 y4))
      have HS5 := Lib.hid (HS2.out.ext (ext_trans y3 y4))
      have HT5 := Lib.hid (Utf8Tabs_below HT2.out (ext_trans y3 y4))
      have hh5 := h.below y5 (Nat.le_refl _)
      obtain ⟨b0, b1, b2, b3, b4, b5⟩ := box_ch hk5
      have HK5 := Lib.hid hk5
      clear hk5 hq1 hq2 r0 r1 r2 r3 r4 r5 HK2 HS2 HT2
      cases m with
      | zero =>
        have HI3 : Hid ((if okC ⟨x1, g, x2, x3, x4, x5⟩ = true then loopP l (some x1) (if thereC l ⟨x1, g, x2, x3, x4, x5⟩ = true then ei else 4) (p.drop (0 + 1)) else 3) = R) := Lib.hid (by rw [← HI2.out]; simp)
        clear HI2
        go_wp2_with (fail)
        go_quiet (fail)
        cases g with
        | true =>
          cases hz : beqV ⟨x2, x3, x4, x5⟩ ⟨0, 0, 0, ⟨#[]⟩⟩ with
          | false =>
            have hok : okC ⟨x1, true, x2, x3, x4, x5⟩ = false := hz
            have HOK := Lib.hid hok
            clear hok
            go_wp2_with (fail)
            go_ret
            exact ⟨ret_int (by rw [← HI3.out]; rw [HOK.out]; rfl), y5.trans (ext_drew _ _ |>.mono (y5.size))⟩
          | true =>
            have hok : okC ⟨x1, true, x2, x3, x4, x5⟩ = true := hz
            have HOK := Lib.hid hok
            clear hok
            have HTH : Hid (thereC l ⟨x1, true, x2, x3, x4, x5⟩ = q) := Lib.hid (by unfold thereC; rw [HQ2.out]; simp)
            cases q with
            | false =>
              go_wp2_with (fail)
              go_roundg (n - (0 + 1))
              case measure => have := HG.out; omega
              case rel => exact ⟨0 + 1, 4, by omega, rfl, rfl, by go_num, y5.trans ((ext_drew _ _).mono y5.size), Lib.hid (by rw [← HI3.out, if_neg (show ¬ (0 + 1 = 0) by omega), Nat.add_sub_cancel, HX.out]; rw [HOK.out, HTH.out]; rfl)⟩
            | true =>
              go_wp2_with (fail)
              go_roundg (n - (0 + 1))
              case measure => have := HG.out; omega
              case rel => exact ⟨0 + 1, ei, by omega, rfl, rfl, by go_num, y5.trans ((ext_drew _ _).mono y5.size), Lib.hid (by rw [← HI3.out, if_neg (show ¬ (0 + 1 = 0) by omega), Nat.add_sub_cancel, HX.out]; rw [HOK.out, HTH.out]; rfl)⟩
        | false =>
          go_wp2_with (go_at_call 184; refine Hid.out ?_)
          refine Lib.hid ?_
          refine (mayV_any x2 x3 x4 x5 _ f0 f1 ?tb).mono ?_
          case tb => exact tabs_at hT y5 rfl
          rintro e w6 ⟨rfl, y6⟩
          have HOK : Hid (okC ⟨x1, false, x2, x3, x4, x5⟩ = mayV ⟨x2, x3, x4, x5⟩) := Lib.hid rfl
          generalize mayV ⟨x2, x3, x4, x5⟩ = M at HOK ⊢
          have yy6 := below_at y5 y6 rfl rfl rfl rfl
          have hk6 := kept1 HK5.out y6 rfl
          have HS6 := Lib.hid (Sch.at_ HS5.out y6 rfl)
          clear b0 b1 b2 b3 b4 b5
          obtain ⟨b0, b1, b2, b3, b4, b5⟩ := box_ch hk6
          clear hk6
          cases M with
          | false =>
            go_wp2_with (fail)
            go_ret
            exact ⟨ret_int (by rw [← HI3.out]; rw [HOK.out]; rfl), yy6⟩
          | true =>
            cases q with
            | false =>
              have HTH : Hid (thereC l ⟨x1, false, x2, x3, x4, x5⟩ = false) := Lib.hid (by unfold thereC; rw [HQ2.out]; rfl)
              go_wp2_with (fail)
              go_roundg (n - (0 + 1))
              case measure => have := HG.out; omega
              case rel => exact ⟨0 + 1, 4, by omega, rfl, rfl, by go_num, yy6, Lib.hid (by rw [← HI3.out, if_neg (show ¬ (0 + 1 = 0) by omega), Nat.add_sub_cancel, HX.out]; rw [HOK.out, HTH.out]; rfl)⟩
            | true =>
              have HTH : Hid (thereC l ⟨x1, false, x2, x3, x4, x5⟩ = fitsK l x1 ⟨x2, x3, x4, x5⟩) := Lib.hid (by unfold thereC; rw [HQ2.out]; rfl)
              go_wp2_with (go_at_call 185; refine Hid.out ?_)
              refine Lib.hid ?_
              refine (fitsS_any s l x1 x2 x3 x4 x5 _ ?sc f0 f1 ?tb).mono ?_
              case sc => exact HS6.out
              case tb => exact tabs_at hT yy6 rfl
              rintro e w7 ⟨rfl, y7⟩
              have yy7 := below_at yy6 y7 rfl rfl rfl rfl
              generalize fitsK l x1 ⟨x2, x3, x4, x5⟩ = F at HTH ⊢
              cases F with
              | false =>
                go_wp2_with (fail)
                go_roundg (n - (0 + 1))
                case measure => have := HG.out; omega
                case rel => exact ⟨0 + 1, 4, by omega, rfl, rfl, by go_num, yy7, Lib.hid (by rw [← HI3.out, if_neg (show ¬ (0 + 1 = 0) by omega), Nat.add_sub_cancel, HX.out]; rw [HOK.out, HTH.out]; rfl)⟩
              | true =>
                go_wp2_with (fail)
                go_roundg (n - (0 + 1))
                case measure => have := HG.out; omega
                case rel => exact ⟨0 + 1, ei, by omega, rfl, rfl, by go_num, yy7, Lib.hid (by rw [← HI3.out, if_neg (show ¬ (0 + 1 = 0) by omega), Nat.add_sub_cancel, HX.out]; rw [HOK.out, HTH.out]; rfl)⟩
      | succ k =>
        obtain ⟨ad', z, e, _, _, hz1, hz0⟩ := hh5.el (show k < p.length by omega)
        injection e with e; subst e
        obtain ⟨z1, zg, z2, z3, z4, z5⟩ := z
        obtain ⟨s0, -⟩ := ch_cells hz0
        have HI4 : Hid ((if (decide (z1 < x1) && okC ⟨x1, g, x2, x3, x4, x5⟩) = true then loopP l (some x1) (if thereC l ⟨x1, g, x2, x3, x4, x5⟩ = true then ei else 4) (p.drop (k + 1 + 1)) else 3) = R) := Lib.hid (by
          rw [← HI2.out, if_neg (show ¬ (k + 1 = 0) by omega), Nat.add_sub_cancel, hz1]; simp)
        clear HI2 hz1 hz0
        have hkn : k < n := by omega
        have hw1 : IntKind.i64.wrap (k:Int) = (k : Int) := IntWalk.i64_in _ (by omega)
        by_cases hle : x1 ≤ z1
        · have HI3 : Hid ((3 : Int) = R) := Lib.hid (by rw [← HI4.out, show decide (z1 < x1) = false from decide_eq_false (by omega)]; simp)
          clear HI4
          go_wp2_with (fail)
          go_quiet (fail)
          go_wp2_with (fail)
          go_ret
          exact ⟨ret_int HI3.out, y5.trans ((ext_drew _ _).mono y5.size)⟩
        · have HI3 : Hid ((if okC ⟨x1, g, x2, x3, x4, x5⟩ = true then loopP l (some x1) (if thereC l ⟨x1, g, x2, x3, x4, x5⟩ = true then ei else 4) (p.drop (k + 1 + 1)) else 3) = R) := Lib.hid (by rw [← HI4.out, show decide (z1 < x1) = true from decide_eq_true (by omega)]; simp)
          clear HI4
          go_wp2_with (fail)
          go_quiet (fail)
          cases g with
          | true =>
            cases hz : beqV ⟨x2, x3, x4, x5⟩ ⟨0, 0, 0, ⟨#[]⟩⟩ with
            | false =>
              have hok : okC ⟨x1, true, x2, x3, x4, x5⟩ = false := hz
              have HOK := Lib.hid hok
              clear hok
              go_wp2_with (fail)
              go_ret
              exact ⟨ret_int (by rw [← HI3.out]; rw [HOK.out]; rfl), y5.trans (ext_drew _ _ |>.mono (y5.size))⟩
            | true =>
              have hok : okC ⟨x1, true, x2, x3, x4, x5⟩ = true := hz
              have HOK := Lib.hid hok
              clear hok
              have HTH : Hid (thereC l ⟨x1, true, x2, x3, x4, x5⟩ = q) := Lib.hid (by unfold thereC; rw [HQ2.out]; simp)
              cases q with
              | false =>
                go_wp2_with (fail)
                go_roundg (n - ((k + 1) + 1))
                case measure => have := HG.out; omega
                case rel => exact ⟨(k + 1) + 1, 4, by omega, rfl, rfl, by go_num, y5.trans ((ext_drew _ _).mono y5.size), Lib.hid (by rw [← HI3.out, if_neg (show ¬ ((k + 1) + 1 = 0) by omega), Nat.add_sub_cancel, HX.out]; rw [HOK.out, HTH.out]; rfl)⟩
              | true =>
                go_wp2_with (fail)
                go_roundg (n - ((k + 1) + 1))
                case measure => have := HG.out; omega
                case rel => exact ⟨(k + 1) + 1, ei, by omega, rfl, rfl, by go_num, y5.trans ((ext_drew _ _).mono y5.size), Lib.hid (by rw [← HI3.out, if_neg (show ¬ ((k + 1) + 1 = 0) by omega), Nat.add_sub_cancel, HX.out]; rw [HOK.out, HTH.out]; rfl)⟩
          | false =>
            go_wp2_with (go_at_call 184; refine Hid.out ?_)
            refine Lib.hid ?_
            refine (mayV_any x2 x3 x4 x5 _ f0 f1 ?tb).mono ?_
            case tb => exact tabs_at hT y5 rfl
            rintro e w6 ⟨rfl, y6⟩
            have HOK : Hid (okC ⟨x1, false, x2, x3, x4, x5⟩ = mayV ⟨x2, x3, x4, x5⟩) := Lib.hid rfl
            generalize mayV ⟨x2, x3, x4, x5⟩ = M at HOK ⊢
            have yy6 := below_at y5 y6 rfl rfl rfl rfl
            have hk6 := kept1 HK5.out y6 rfl
            have HS6 := Lib.hid (Sch.at_ HS5.out y6 rfl)
            clear b0 b1 b2 b3 b4 b5
            obtain ⟨b0, b1, b2, b3, b4, b5⟩ := box_ch hk6
            clear hk6
            cases M with
            | false =>
              go_wp2_with (fail)
              go_ret
              exact ⟨ret_int (by rw [← HI3.out]; rw [HOK.out]; rfl), yy6⟩
            | true =>
              cases q with
              | false =>
                have HTH : Hid (thereC l ⟨x1, false, x2, x3, x4, x5⟩ = false) := Lib.hid (by unfold thereC; rw [HQ2.out]; rfl)
                go_wp2_with (fail)
                go_roundg (n - ((k + 1) + 1))
                case measure => have := HG.out; omega
                case rel => exact ⟨(k + 1) + 1, 4, by omega, rfl, rfl, by go_num, yy6, Lib.hid (by rw [← HI3.out, if_neg (show ¬ ((k + 1) + 1 = 0) by omega), Nat.add_sub_cancel, HX.out]; rw [HOK.out, HTH.out]; rfl)⟩
              | true =>
                have HTH : Hid (thereC l ⟨x1, false, x2, x3, x4, x5⟩ = fitsK l x1 ⟨x2, x3, x4, x5⟩) := Lib.hid (by unfold thereC; rw [HQ2.out]; rfl)
                go_wp2_with (go_at_call 185; refine Hid.out ?_)
                refine Lib.hid ?_
                refine (fitsS_any s l x1 x2 x3 x4 x5 _ ?sc f0 f1 ?tb).mono ?_
                case sc => exact HS6.out
                case tb => exact tabs_at hT yy6 rfl
                rintro e w7 ⟨rfl, y7⟩
                have yy7 := below_at yy6 y7 rfl rfl rfl rfl
                generalize fitsK l x1 ⟨x2, x3, x4, x5⟩ = F at HTH ⊢
                cases F with
                | false =>
                  go_wp2_with (fail)
                  go_roundg (n - ((k + 1) + 1))
                  case measure => have := HG.out; omega
                  case rel => exact ⟨(k + 1) + 1, 4, by omega, rfl, rfl, by go_num, yy7, Lib.hid (by rw [← HI3.out, if_neg (show ¬ ((k + 1) + 1 = 0) by omega), Nat.add_sub_cancel, HX.out]; rw [HOK.out, HTH.out]; rfl)⟩
                | true =>
                  go_wp2_with (fail)
                  go_roundg (n - ((k + 1) + 1))
                  case measure => have := HG.out; omega
                  case rel => exact ⟨(k + 1) + 1, ei, by omega, rfl, rfl, by go_num, yy7, Lib.hid (by rw [← HI3.out, if_neg (show ¬ ((k + 1) + 1 = 0) by omega), Nat.add_sub_cancel, HX.out]; rw [HOK.out, HTH.out]; rfl)⟩
    · have hmn : m = n := by omega
      go_wp2_with (fail)
      go_ret
      refine ⟨ret_int ?_, y⟩
      rw [← HI.out, List.drop_eq_nil_of_le (by have := N.out; omega)]
      rfl
theorem mayP_any (s : Nat) (l : List Ky) (A : Option Addr) (n c : Nat) (p : List Ch) (w : World) (hn : n = p.length) (h : RdCh w w.heap.size A p) (hb : n ≤ 140737488355328) (hS : Sch w s l) (hv : okVs p) (hT : Lib.Utf8Tabs 1 2 w) :
    Calls Tryz.prog 135 #[.pointer (some ⟨s, 0, none⟩), .slice A n c] w fun e w' => e = .returned (.int .i64 (mayP l p)) ∧ Below w.heap.size w w' :=
  mayPc_any s l A n c p w hn h hb hS (fun c hc => (hv c hc).1) hT

theorem mayP_zero {l : List Ky} {p : List Ch} (h : mayP l p = 0) : p.length ≤ 64 ∧ riseC p = true ∧ p.all okC = true ∧ p.all (thereC l) = true := by
  unfold mayP at h
  by_cases h1 : 64 < p.length
  · rw [if_pos h1] at h; cases h
  · rw [if_neg h1] at h
    by_cases h2 : riseC p = true ∧ p.all okC = true
    · rw [if_pos h2] at h
      by_cases h3 : p.all (thereC l) = true
      · exact ⟨by omega, h2.1, h2.2, h3⟩
      · rw [if_neg h3] at h; cases h
    · rw [if_neg h2] at h; cases h
theorem mayP_of {l : List Ky} {p : List Ch} (h0 : p.length ≤ 64) (h1 : riseC p = true) (h2 : ∀ c ∈ p, okC c = true) (h3 : ∀ c ∈ p, thereC l c = true) : mayP l p = 0 := by
  unfold mayP
  rw [if_neg (by omega), if_pos ⟨h1, List.all_eq_true.2 h2⟩, if_pos (List.all_eq_true.2 h3)]

def actC (l : List Ky) (c : Cl) (p : List Ch) : Cl := ⟨c.r, applyP (partP l (c.r == 10) p) c.s⟩
def app (l : List Ky) : List Un → List Cl → List Cl
  | [], d => d
  | .ins r s :: us, d => ⟨r, s⟩ :: app l us d
  | .del :: us, d => app l us (d.drop 1)
  | .ret p :: us, d => (d.take 1).map (fun c => actC l c p) ++ app l us (d.drop 1)
theorem trim_takes (us : List Un) : takesU (trim us) ≤ takesU us := by
  induction us with
  | nil => simp [trim]
  | cons u us ih =>
    rw [trim]
    cases ht : trim us with
    | nil =>
      simp only
      by_cases hu : u = .ret []
      · rw [if_pos hu]; simp [takesU]
      · rw [if_neg hu]; cases u <;> simp [takesU]
    | cons v vs =>
      simp only
      rw [ht] at ih
      cases u with
      | ins r s => rw [takesU_i, takesU_i]; exact ih
      | del => rw [takesU_d, takesU_d]; omega
      | ret p => rw [takesU_r, takesU_r]; omega
theorem nf_takes (us : List Un) : takesU (nf us) ≤ takesU us := by
  rw [nf]; exact Nat.le_trans (trim_takes _) (by rw [canon_takes]; exact Nat.le_refl _)

def okA (a : At) : Bool := mayV a.v
def thereA (l : List Ky) (a : At) : Bool := fitsK l a.key a.v
def mayS (l : List Ky) (p : List At) : Int := if 64 < p.length then 3 else if riseA p = true ∧ p.all okA = true then (if p.all (thereA l) = true then 0 else 4) else 3
def okVa (p : List At) : Prop := ∀ c ∈ p, okV c.v ∧ c.v.s.size ≤ 100000000
theorem mayS_zero {l : List Ky} {p : List At} (h : mayS l p = 0) : p.length ≤ 64 ∧ riseA p = true ∧ (∀ a ∈ p, okA a = true) ∧ ∀ a ∈ p, thereA l a = true := by
  unfold mayS at h
  by_cases h1 : 64 < p.length
  · rw [if_pos h1] at h; cases h
  · rw [if_neg h1] at h
    by_cases h2 : riseA p = true ∧ p.all okA = true
    · rw [if_pos h2] at h
      by_cases h3 : p.all (thereA l) = true
      · exact ⟨by omega, h2.1, List.all_eq_true.1 h2.2, List.all_eq_true.1 h3⟩
      · rw [if_neg h3] at h; cases h
    · rw [if_neg h2] at h; cases h

def GoodB (w : World) (O : List (Nat × Obj)) (x : World) : Prop := Below w.heap.size w x ∧ ∀ p ∈ O, x.heap[p.1]? = some p.2
structure GW (w : World) (O : List (Nat × Obj)) where
  val : World
  ok : GoodB w O val

section
variable {P : Program} {w v : World} {O : List (Nat × Obj)}
theorem GoodB.later {x y : World} (h : GoodB w O x) (hy : Below x.heap.size x y) : GoodB w O y :=
  ⟨ext_trans h.1 hy, fun p hp => by
    have h1 := h.2 p hp
    rw [hy.block p.1 (Array.getElem?_eq_some_iff.1 h1).1]
    exact h1⟩
theorem good_call {f : FuncId} {args : Array Value} {r : Value} (x : GW w O) (h : Calls P f args x.val fun e w' => e = .returned r ∧ Below x.val.heap.size x.val w') :
    Calls P f args x.val fun e w' => e = .returned r ∧ ∃ y : GW w O, w' = y.val :=
  h.mono fun e w' ⟨he, hb⟩ => ⟨he, ⟨w', x.ok.later hb⟩, rfl⟩
theorem good_drawn (h : GoodB w O v) : ∃ x : GW w O, ({ v with drawn := v.drawn + 1 } : World) = x.val :=
  ⟨⟨{ v with drawn := v.drawn + 1 }, ⟨h.1.os, h.1.tape, h.1.output, h.1.size, h.1.block⟩, h.2⟩, rfl⟩
theorem wp_region_class {id : Nat} {Q : Exit → Act → World → Prop} {a : Act} {l : List Oper} (hm : P.follows .mixedOrders = true) (hB : Region.lexB .any l.toArray = true) (hC : GoodB w O v)
    (h : wpQuiet P l.toArray (fun w' => ∃ x : GW w O, w' = x.val) (fun a' => ∀ w', (∃ x : GW w O, w' = x.val) → Q .normal a' w') l a) : (Code.region id l.toArray true).wp P Q a v :=
  wp_region_quiet (C := fun w' => ∃ x : GW w O, w' = x.val) hm hB (good_drawn hC) (by simpa using h)
theorem good_block {b : Nat} {o : Obj} (h : (b, o) ∈ O) (x : GW w O) : x.val.heap[b]? = some o := x.ok.2 _ h
theorem good_cells {b : Nat} {cs : Array Value} {t : TypeId} (h : (b, Obj.cells cs t (0, 0)) ∈ O) (x : GW w O) (j : Nat) (u : Value) (hj : cs[j]? = some u) : x.val.cell? ⟨b, j, none⟩ = some u := by
  have := x.ok.2 _ h
  simp only [World.cell?, this]
  exact hj
end
open Go.RowKit

theorem tabs_good {w : World} {O : List (Nat × Obj)} {a b : Nat} (hT : Lib.Utf8Tabs a b w) (x : GW w O) : Lib.Utf8Tabs a b x.val := Utf8Tabs_below hT x.ok.1
set_option linter.unusedVariables false
set_option linter.unusedSimpArgs false

def okVr (p : List At) : Prop := ∀ c ∈ p, okV c.v
def loopS (l : List Ky) : Option Int → Int → List At → Int
  | _, e, [] => e
  | prev, e, c :: r => if (prev.all (fun k => decide (k < c.key)) && okA c) = true then loopS l (some c.key) (if thereA l c = true then e else 4) r else 3
theorem loopS_some (l : List Ky) : ∀ (p : List At) (k : Int) (e : Int), loopS l (some k) e p = if rise (k :: p.map (·.key)) = true ∧ p.all okA = true then (if p.all (thereA l) = true then e else 4) else 3
  | [], k, e => by simp [loopS, rise]
  | c :: r, k, e => by
    unfold loopS
    rw [loopS_some l r c.key]
    by_cases h1 : k < c.key
    · by_cases h2 : okA c = true
      · by_cases h3 : thereA l c = true
        · simp [h1, h2, h3, rise]
        · have h3 : thereA l c = false := by simpa using h3
          simp [h1, h2, h3, rise]
      · have h2 : okA c = false := by simpa using h2
        simp [h1, h2]
    · simp [h1, rise]
theorem loopS_none (l : List Ky) (p : List At) (h : p.length ≤ 64) : loopS l none 0 p = mayS l p := by
  unfold mayS
  rw [if_neg (by omega)]
  cases p with
  | nil => simp [loopS, riseA, rise]
  | cons c r =>
    unfold loopS
    rw [loopS_some]
    by_cases h2 : okA c = true
    · by_cases h3 : thereA l c = true
      · simp [h2, h3, riseA]
      · have h3 : thereA l c = false := by simpa using h3
        simp [h2, h3, riseA]
    · have h2 : okA c = false := by simpa using h2
      simp [h2]
theorem mayV_class {k n f : Int} {s : ByteArray} {b : Bool} {w : World} {O : List (Nat × Obj)} (hT : Lib.Utf8Tabs 1 2 w) (h0 : 0 ≤ f) (h1 : f < 18446744073709551616) (h : mayV ⟨k, n, f, s⟩ = b) (x : GW w O) :
    Calls Tryz.prog 184 #[.agg #[.int .u8 k, .int .i64 n, .int .u64 f, .string s]] x.val fun e w' => e = .returned (.bool b) ∧ ∃ y : GW w O, w' = y.val :=
  good_call x ((mayV_any k n f s x.val h0 h1 (tabs_good hT x)).mono fun e w' h' => ⟨by rw [h'.1, h], h'.2⟩)

set_option maxRecDepth 100000 in
set_option maxHeartbeats 3200000 in
theorem mayS_any (s : Nat) (l : List Ky) (A : Option Addr) (n c : Nat) (p : List At) (w : World) (hn : n = p.length) (h : RdAt w w.heap.size A p) (hb : n ≤ 140737488355328) (hS : Sch w s l) (hv : okVr p) (hT : Lib.Utf8Tabs 1 2 w) :
    Calls Tryz.prog 131 #[.pointer (some ⟨s, 0, none⟩), .slice A n c] w fun e w' => e = .returned (.int .i64 (mayS l p)) ∧ Below w.heap.size w w' := by
  have N := Lib.hid hn
  generalize hR : mayS l p = R
  have HR := Lib.hid hR
  clear hn hR
  by_cases h64 : (64 : Int) < (n : Int)
  · go_enter Tryz.func131, Tryz.ntmps131
    go_wp2_with (fail)
    go_ret
    refine ⟨ret_int ?_, Below.refl _ _⟩
    rw [← HR.out]
    have := N.out
    unfold mayS
    rw [if_pos (by omega)]
  have HP : Hid (loopS l none 0 p = R) := Lib.hid (by rw [← HR.out]; exact loopS_none l p (by have := N.out; omega))
  go_enter Tryz.func131, Tryz.ntmps131
  go_wp2_with (fail)
  go_loopg [5, 13] n (fun g ev iv wr => ∃ (m : Nat) (ei : Int), m ≤ n ∧ g = n - m ∧ ev = .int .i64 ei ∧ iv = .int .i64 (m : Int) ∧ Below w.heap.size w wr ∧ Hid (loopS l (if m = 0 then none else (p[m - 1]?).map (·.key)) ei (p.drop m) = R))
  case atStart => exact ⟨0, 0, by omega, rfl, rfl, rfl, Below.refl _ _, Lib.hid (by rw [List.drop_zero]; exact HP.out)⟩
  case round =>
    obtain ⟨m, ei, hm, hg, rfl, rfl, y, HI⟩ := hrel
    have HG := Lib.hid hg
    clear hg HR HP
    by_cases hlt : m < n
    · have hl1 : m < p.length := by have := N.out; omega
      obtain ⟨ad, x, rfl, had, hd1, hx1, hc0⟩ := (h.below y (Nat.le_refl _)).el hl1
      have hxv := hv x (List.mem_of_getElem? hx1)
      obtain ⟨x1, x2, x3, x4, x5⟩ := x
      obtain ⟨r0, r1, r2, r3, r4⟩ := at_cells hc0
      obtain ⟨f0, f1⟩ : 0 ≤ x4 ∧ x4 < 18446744073709551616 := ⟨hxv.f0, hxv.f1⟩
      have HI2 : Hid ((if ((if m = 0 then none else (p[m - 1]?).map (·.key)).all (fun k => decide (k < x1)) && okA ⟨x1, x2, x3, x4, x5⟩) = true then loopS l (some x1) (if thereA l ⟨x1, x2, x3, x4, x5⟩ = true then ei else 4) (p.drop (m + 1)) else 3) = R) := Lib.hid (by
        rw [← HI.out, hd1]; rfl)
      have HX := Lib.hid hx1
      have hk2 := heap_alloc_new wr (.cells #[.int .i64 x1, .int .u8 x2, .int .i64 x3, .int .u64 x4, .string x5] 43)
      have y2 := ext_trans y (ext_alloc wr (.cells #[.int .i64 x1, .int .u8 x2, .int .i64 x3, .int .u64 x4, .string x5] 43))
      have HK2 := Lib.hid hk2
      clear hc0 hd1 hx1 HI hxv
      have hw2 : IntKind.i64.wrap ((m:Int) + 1) = (m : Int) + 1 := IntWalk.i64_in _ (by omega)
      obtain ⟨M, hM⟩ : ∃ X, mayV ⟨x2, x3, x4, x5⟩ = X := ⟨_, rfl⟩
      have HM := Lib.hid hM
      have HOK : Hid (okA ⟨x1, x2, x3, x4, x5⟩ = M) := Lib.hid hM
      clear hM hk2
      go_wp2_with (fail)
      have hB : wr.heap.size = wr.heap.size := rfl
      obtain ⟨O, hO⟩ : ∃ O : List (Nat × Obj), O = [(wr.heap.size, .cells #[.int .i64 x1, .int .u8 x2, .int .i64 x3, .int .u64 x4, .string x5] 43 (0, 0))] := ⟨_, rfl⟩
      have gg : GoodB w O _ := ⟨y2, by rw [hO]; intro p hp; simp only [List.mem_cons, List.not_mem_nil, or_false] at hp; rcases hp with rfl; exact HK2.out⟩
      have b0 : ∀ x : GW w O, x.val.cell? ⟨wr.heap.size, 0, none⟩ = some (.int .i64 x1) := fun x => good_cells (cs := #[.int .i64 x1, .int .u8 x2, .int .i64 x3, .int .u64 x4, .string x5]) (t := 43) (by rw [hO]; simp) x 0 _ rfl
      have b1 : ∀ x : GW w O, x.val.cell? ⟨wr.heap.size, 1, none⟩ = some (.int .u8 x2) := fun x => good_cells (cs := #[.int .i64 x1, .int .u8 x2, .int .i64 x3, .int .u64 x4, .string x5]) (t := 43) (by rw [hO]; simp) x 1 _ rfl
      have b2 : ∀ x : GW w O, x.val.cell? ⟨wr.heap.size, 2, none⟩ = some (.int .i64 x3) := fun x => good_cells (cs := #[.int .i64 x1, .int .u8 x2, .int .i64 x3, .int .u64 x4, .string x5]) (t := 43) (by rw [hO]; simp) x 2 _ rfl
      have b3 : ∀ x : GW w O, x.val.cell? ⟨wr.heap.size, 3, none⟩ = some (.int .u64 x4) := fun x => good_cells (cs := #[.int .i64 x1, .int .u8 x2, .int .i64 x3, .int .u64 x4, .string x5]) (t := 43) (by rw [hO]; simp) x 3 _ rfl
      have b4 : ∀ x : GW w O, x.val.cell? ⟨wr.heap.size, 4, none⟩ = some (.string x5) := fun x => good_cells (cs := #[.int .i64 x1, .int .u8 x2, .int .i64 x3, .int .u64 x4, .string x5]) (t := 43) (by rw [hO]; simp) x 4 _ rfl
      have HBX : Hid (∀ x : GW w O, x.val.heap[wr.heap.size]? = some (.cells #[.int .i64 x1, .int .u8 x2, .int .i64 x3, .int .u64 x4, .string x5] 43 (0, 0))) := Lib.hid (fun x => good_block (by rw [hO]; simp) x)
      clear hO r0 r1 r2 r3 r4 hB
      haveI : Nonempty (GW w O) := ⟨⟨_, gg⟩⟩
      cases m with
      | zero =>
        have HI3 : Hid ((if okA ⟨x1, x2, x3, x4, x5⟩ = true then loopS l (some x1) (if thereA l ⟨x1, x2, x3, x4, x5⟩ = true then ei else 4) (p.drop (0 + 1)) else 3) = R) := Lib.hid (by rw [← HI2.out]; simp)
        clear HI2
        cases M with
        | false =>
          refine wp_region_class (by kernel_rfl) (by kernel_rfl) gg ?_
          repeat (go_big_quiet_step (first | (go_at_call 184; with_reducible exact mayV_class hT f0 f1 HM.out _)))
          refine wpQuiet_nil ?_
          intro _ hw'
          obtain ⟨xx, rfl⟩ := hw'
          have yx := xx.ok.1
          have hbx := HBX.out xx
          generalize xx.val = w8 at *
          clear b0 b1 b2 b3 b4
          go_wp2_with (fail)
          go_ret
          exact ⟨ret_int (by rw [← HI3.out, HOK.out]; rfl), yx⟩
        | true =>
          refine wp_region_class (by kernel_rfl) (by kernel_rfl) gg ?_
          repeat (go_big_quiet_step (first | (go_at_call 184; with_reducible exact mayV_class hT f0 f1 HM.out _)))
          refine wpQuiet_nil ?_
          intro _ hw'
          obtain ⟨xx, rfl⟩ := hw'
          have yx := xx.ok.1
          have hbx := HBX.out xx
          generalize xx.val = w8 at *
          clear b0 b1 b2 b3 b4
          obtain ⟨b0, b1, b2, b3, b4⟩ := box_at hbx
          have HTH : Hid (thereA l ⟨x1, x2, x3, x4, x5⟩ = fitsK l x1 ⟨x2, x3, x4, x5⟩) := Lib.hid rfl
          clear hbx
          go_wp2_with (go_at_call 185; refine Hid.out ?_)
          refine Lib.hid ?_
          refine (fitsS_any s l x1 x2 x3 x4 x5 _ (hS.ext yx) f0 f1 (Utf8Tabs_below hT yx)).mono ?_
          rintro e w7 ⟨rfl, y7⟩
          have yy7 := ext_trans yx y7
          generalize fitsK l x1 ⟨x2, x3, x4, x5⟩ = F at HTH ⊢
          cases F with
          | false =>
            go_wp2_with (fail)
            go_roundg (n - (0 + 1))
            case measure => have := HG.out; omega
            case rel => exact ⟨0 + 1, 4, by omega, rfl, rfl, by go_num, yy7, Lib.hid (by rw [← HI3.out, if_neg (show ¬ (0 + 1 = 0) by omega), Nat.add_sub_cancel, HX.out]; rw [HOK.out, HTH.out]; rfl)⟩
          | true =>
            go_wp2_with (fail)
            go_roundg (n - (0 + 1))
            case measure => have := HG.out; omega
            case rel => exact ⟨0 + 1, ei, by omega, rfl, rfl, by go_num, yy7, Lib.hid (by rw [← HI3.out, if_neg (show ¬ (0 + 1 = 0) by omega), Nat.add_sub_cancel, HX.out]; rw [HOK.out, HTH.out]; rfl)⟩
      | succ k =>
        obtain ⟨ad', z, e, _, _, hz1, hz0⟩ := h.el (show k < p.length by omega)
        injection e with e; subst e
        obtain ⟨z1, z2, z3, z4, z5⟩ := z
        have HZ := Lib.hid hz0
        have s0 : ∀ x : GW w O, x.val.cell? _ = some (Value.int IntKind.i64 z1) := fun x => (at_cells (HZ.out.keep (w' := x.val) fun q hq => x.ok.1.cell (by rw [hq, add_block]; exact had))).1
        have HI4 : Hid ((if (decide (z1 < x1) && okA ⟨x1, x2, x3, x4, x5⟩) = true then loopS l (some x1) (if thereA l ⟨x1, x2, x3, x4, x5⟩ = true then ei else 4) (p.drop (k + 1 + 1)) else 3) = R) := Lib.hid (by
          rw [← HI2.out, if_neg (show ¬ (k + 1 = 0) by omega), Nat.add_sub_cancel, hz1]; simp)
        clear HI2 hz1 hz0
        have hkn : k < n := by omega
        have hw1 : IntKind.i64.wrap (k:Int) = (k : Int) := IntWalk.i64_in _ (by omega)
        by_cases hle : x1 ≤ z1
        · have HI3 : Hid ((3 : Int) = R) := Lib.hid (by rw [← HI4.out, show decide (z1 < x1) = false from decide_eq_false (by omega)]; simp)
          clear HI4
          refine wp_region_class (by kernel_rfl) (by kernel_rfl) gg ?_
          repeat (go_big_quiet_step (first | (go_at_call 184; with_reducible exact mayV_class hT f0 f1 HM.out _)))
          refine wpQuiet_nil ?_
          intro _ hw'
          obtain ⟨xx, rfl⟩ := hw'
          have yx := xx.ok.1
          have hbx := HBX.out xx
          generalize xx.val = w8 at *
          clear b0 b1 b2 b3 b4 s0
          go_wp2_with (fail)
          go_ret
          exact ⟨ret_int HI3.out, yx⟩
        · have HI3 : Hid ((if okA ⟨x1, x2, x3, x4, x5⟩ = true then loopS l (some x1) (if thereA l ⟨x1, x2, x3, x4, x5⟩ = true then ei else 4) (p.drop (k + 1 + 1)) else 3) = R) := Lib.hid (by rw [← HI4.out, show decide (z1 < x1) = true from decide_eq_true (by omega)]; simp)
          clear HI4
          cases M with
          | false =>
            refine wp_region_class (by kernel_rfl) (by kernel_rfl) gg ?_
            repeat (go_big_quiet_step (first | (go_at_call 184; with_reducible exact mayV_class hT f0 f1 HM.out _)))
            refine wpQuiet_nil ?_
            intro _ hw'
            obtain ⟨xx, rfl⟩ := hw'
            have yx := xx.ok.1
            have hbx := HBX.out xx
            generalize xx.val = w8 at *
            clear b0 b1 b2 b3 b4 s0
            go_wp2_with (fail)
            go_ret
            exact ⟨ret_int (by rw [← HI3.out, HOK.out]; rfl), yx⟩
          | true =>
            refine wp_region_class (by kernel_rfl) (by kernel_rfl) gg ?_
            repeat (go_big_quiet_step (first | (go_at_call 184; with_reducible exact mayV_class hT f0 f1 HM.out _)))
            refine wpQuiet_nil ?_
            intro _ hw'
            obtain ⟨xx, rfl⟩ := hw'
            have yx := xx.ok.1
            have hbx := HBX.out xx
            generalize xx.val = w8 at *
            clear b0 b1 b2 b3 b4 s0
            obtain ⟨b0, b1, b2, b3, b4⟩ := box_at hbx
            have HTH : Hid (thereA l ⟨x1, x2, x3, x4, x5⟩ = fitsK l x1 ⟨x2, x3, x4, x5⟩) := Lib.hid rfl
            clear hbx
            go_wp2_with (go_at_call 185; refine Hid.out ?_)
            refine Lib.hid ?_
            refine (fitsS_any s l x1 x2 x3 x4 x5 _ (hS.ext yx) f0 f1 (Utf8Tabs_below hT yx)).mono ?_
            rintro e w7 ⟨rfl, y7⟩
            have yy7 := ext_trans yx y7
            generalize fitsK l x1 ⟨x2, x3, x4, x5⟩ = F at HTH ⊢
            cases F with
            | false =>
              go_wp2_with (fail)
              go_roundg (n - ((k + 1) + 1))
              case measure => have := HG.out; omega
              case rel => exact ⟨(k + 1) + 1, 4, by omega, rfl, rfl, by go_num, yy7, Lib.hid (by rw [← HI3.out, if_neg (show ¬ ((k + 1) + 1 = 0) by omega), Nat.add_sub_cancel, HX.out]; rw [HOK.out, HTH.out]; rfl)⟩
            | true =>
              go_wp2_with (fail)
              go_roundg (n - ((k + 1) + 1))
              case measure => have := HG.out; omega
              case rel => exact ⟨(k + 1) + 1, ei, by omega, rfl, rfl, by go_num, yy7, Lib.hid (by rw [← HI3.out, if_neg (show ¬ ((k + 1) + 1 = 0) by omega), Nat.add_sub_cancel, HX.out]; rw [HOK.out, HTH.out]; rfl)⟩
    · have hmn : m = n := by omega
      go_wp2_with (fail)
      go_ret
      refine ⟨ret_int ?_, y⟩
      rw [← HI.out, List.drop_eq_nil_of_le (by have := N.out; omega)]
      rfl
def IdxOut {α : Type} (pr : α → Bool) (l : List α) (i : Int) : Prop :=
  (i = -1 ∧ ∀ x ∈ l, pr x = false) ∨ ∃ j : Nat, i = j ∧ j < l.length ∧ (∀ x ∈ l.take j, pr x = false) ∧ ∃ x, l[j]? = some x ∧ pr x = true
end Go.Proofs.YtfnkjcodcoehcaaGreatDoor
