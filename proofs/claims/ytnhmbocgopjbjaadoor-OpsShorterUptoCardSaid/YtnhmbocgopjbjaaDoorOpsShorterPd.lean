/- The walk of rubriclaw15.OpsShorter: whatever is handed in, it answers true and changes nothing that was there. -/
import Derived.Test.YtnhmbocgopjbjaaDoorPk16
import Derived.Test.YtnhmbocgopjbjaaDoorPk17
namespace Go.Proofs.YtnhmbocgopjbjaaDoor
open Go.RowKit
set_option linter.unusedVariables false
set_option linter.unusedSimpArgs false

set_option maxRecDepth 100000 in
set_option maxHeartbeats 6400000 in
theorem opsShorter_any (A0 A1 : Option Addr) (n0 n1 c0 c1 : Nat) (l0 : List Ky) (l1 : List OpS) (n less most : Int) (w : World)
    (e0 : n0 = l0.length) (e1 : n1 = l1.length) (r0 : RdKy w w.heap.size A0 l0) (r1 : RdOp w w.heap.size A1 l1) (b0 : n0 ≤ 1048576) (b1 : n1 ≤ 1048576) (q1 : ∀ o ∈ l1, okOp o.o) (hT : Lib.Utf8Tabs 1 2 w) :
    Calls Tryd.prog 5 #[.slice A0 n0 c0, .slice A1 n1 c1, .int .i64 n, .int .i64 less, .int .i64 most] w fun e w' => e = .returned (.bool true) ∧ Below w.heap.size w w' := by
  have N1 := Lib.hid e1
  have N0 := Lib.hid e0
  have hx := ext_alloc w (.cells #[.slice A1 n1 c1] 23)
  have rs : Rd SX.enc 1 (w.alloc (.cells #[.slice A1 n1 c1] 23)) (w.alloc (.cells #[.slice A1 n1 c1] 23)).heap.size (some ⟨w.heap.size, 0, none⟩) [⟨A1, c1, l1⟩] := Rd.new (enc := SX.enc) (size := 1) (fun _ => rfl) w 23 [⟨A1, c1, l1⟩] (cs := #[.slice A1 n1 c1]) (by simp [SX.enc, ← N1.out]) rfl
  clear e0 e1
  go_enter Tryd.func5, Tryd.ntmps5
  go_wp2_with (go_at_call 10; refine Hid.out ?_)
  refine Lib.hid ?_
  refine (great15_any A0 _ n0 c0 1 1 [⟨A1, c1, l1⟩] _ rfl (by omega) rs (fun s hs => by
    simp at hs; subst hs
    exact ⟨r1.ext hx, by have := N1.out; simp only; omega, q1⟩) (by omega)).mono ?_
  rintro e v ⟨g, rfl, hgr, d, rfl⟩
  have hx := ext_trans hx (ext_drew _ d)
  generalize (w.alloc (.cells #[.slice A1 n1 c1] 23)).drewN d = u0 at *
  clear hgr rs
  cases g
  case true =>
    go_wp2_with (go_at_call 11; refine Hid.out ?_)
    refine Lib.hid ?_
    refine (known15_any _ (Utf8Tabs_below hT hx)).mono ?_
    rintro e w9 ⟨rfl, y⟩
    replace hx := ext_trans hx y
    go_wp2_with (fail)
    go_ret
    exact ⟨by first | rfl | trace_state, hx⟩
  by_cases g0 : n < 1
  · skip
    go_wp2_with (go_at_call 11; refine Hid.out ?_)
    refine Lib.hid ?_
    refine (known15_any _ (Utf8Tabs_below hT hx)).mono ?_
    rintro e w9 ⟨rfl, y⟩
    replace hx := ext_trans hx y
    go_wp2_with (fail)
    go_ret
    exact ⟨by first | rfl | trace_state, hx⟩
  by_cases g1 : 1073741824 < n
  · skip
    go_wp2_with (go_at_call 11; refine Hid.out ?_)
    refine Lib.hid ?_
    refine (known15_any _ (Utf8Tabs_below hT hx)).mono ?_
    rintro e w9 ⟨rfl, y⟩
    replace hx := ext_trans hx y
    go_wp2_with (fail)
    go_ret
    exact ⟨by first | rfl | trace_state, hx⟩
  by_cases g2 : less < 0
  · skip
    go_wp2_with (go_at_call 11; refine Hid.out ?_)
    refine Lib.hid ?_
    refine (known15_any _ (Utf8Tabs_below hT hx)).mono ?_
    rintro e w9 ⟨rfl, y⟩
    replace hx := ext_trans hx y
    go_wp2_with (fail)
    go_ret
    exact ⟨by first | rfl | trace_state, hx⟩
  by_cases g3 : n ≤ less
  · skip
    go_wp2_with (go_at_call 11; refine Hid.out ?_)
    refine Lib.hid ?_
    refine (known15_any _ (Utf8Tabs_below hT hx)).mono ?_
    rintro e w9 ⟨rfl, y⟩
    replace hx := ext_trans hx y
    go_wp2_with (fail)
    go_ret
    exact ⟨by first | rfl | trace_state, hx⟩
  by_cases g4 : most < n
  · skip
    go_wp2_with (go_at_call 11; refine Hid.out ?_)
    refine Lib.hid ?_
    refine (known15_any _ (Utf8Tabs_below hT hx)).mono ?_
    rintro e w9 ⟨rfl, y⟩
    replace hx := ext_trans hx y
    go_wp2_with (fail)
    go_ret
    exact ⟨by first | rfl | trace_state, hx⟩
  by_cases g5 : 1073741824 < most
  · skip
    go_wp2_with (go_at_call 11; refine Hid.out ?_)
    refine Lib.hid ?_
    refine (known15_any _ (Utf8Tabs_below hT hx)).mono ?_
    rintro e w9 ⟨rfl, y⟩
    replace hx := ext_trans hx y
    go_wp2_with (fail)
    go_ret
    exact ⟨by first | rfl | trace_state, hx⟩
  go_wp2_with (go_at_call 12; refine Hid.out ?_)
  refine Lib.hid ?_
  refine (new_any A0 n0 c0 l0 _ N0.out (r0.ext hx) (by omega)).mono ?_
  rintro e v1 ⟨y, ⟨hm, s, rfl, hS⟩ | ⟨hm, rfl⟩⟩
  all_goals
    replace hx := ext_trans hx y
    clear y hm
  rotate_left
  · skip
    go_wp2_with (go_at_call 11; refine Hid.out ?_)
    refine Lib.hid ?_
    refine (known15_any _ (Utf8Tabs_below hT hx)).mono ?_
    rintro e w9 ⟨rfl, y⟩
    replace hx := ext_trans hx y
    go_wp2_with (fail)
    go_ret
    exact ⟨by first | rfl | trace_state, hx⟩
  have HS := Lib.hid hS
  clear hS
  have hw1 : IntKind.i64.wrap (n - less) = n - less := IntWalk.i64_in _ (by omega)
  have hm0 : Int.tmod less n = less := Int.tmod_eq_of_lt (by omega) (by omega)
  have hw2 : IntKind.i64.wrap less = less := IntWalk.i64_in _ (by omega)
  have hw3 : IntKind.i64.wrap (1 + less) = 1 + less := IntWalk.i64_in _ (by omega)
  have hn0 : (n == 0) = false := beq_eq_false_iff_ne.2 (by omega)
  obtain ⟨F, hF⟩ : ∃ X, fitsO l0 l1 n most = X := ⟨_, rfl⟩
  have HF := Lib.hid hF
  have D1 : Hid ((F = 3 ∨ F = 4 ∨ F = 5) → fitsO l0 l1 (n - less) most = F) := Lib.hid (by rw [← hF]; exact fits_less (by omega) (by omega) (by omega) (by omega))
  have D2 : Hid (fitsO l0 l1 n n = 0 → F = 0) := Lib.hid (by rw [← hF]; exact fits_small (by omega))
  have D3 : Hid (fitsO l0 [(⟨⟨1, 1 + less, [], [], []⟩, none, 0, none, 0, none, 0⟩ : OpS)] n most = (if 1 + less ≤ 536870912 then 0 else 3)) := Lib.hid (fits_retain (by omega) (by omega) (by omega) (by omega))
  clear hF
  go_wp2_with (go_at_call 13; refine Hid.out ?_)
  refine Lib.hid ?_
  refine (fitsO_any s l0 A1 n1 c1 l1 n most _ N1.out (r1.ext hx) (by omega) HS.out q1 (Utf8Tabs_below hT hx)).mono ?_
  rintro e v2 ⟨rfl, y⟩
  have HS := Lib.hid (HS.out.ext y)
  replace hx := ext_trans hx y
  clear y
  rw [HF.out]
  by_cases h0 : F = 0
  · subst h0
    generalize v2 = u9 at *
    have g9 : 1 + less ≤ n := by omega
    have yl := ext_alloc u9 (.cells #[.int .u8 1, .int .i64 (1 + less), .slice none 0 0, .slice none 0 0, .slice none 0 0] 41)
    have rl := rd_ops u9 [(⟨⟨1, 1 + less, [], [], []⟩, none, 0, none, 0, none, 0⟩ : OpS)] sub_plain (cs := #[.int .u8 1, .int .i64 (1 + less), .slice none 0 0, .slice none 0 0, .slice none 0 0]) rfl (b := u9.heap.size) rfl
    go_wp2_with (go_at_call 13; refine Hid.out ?_)
    refine Lib.hid ?_
    refine (fitsO_any s l0 _ 1 1 _ n most _ rfl rl (by omega) (HS.out.ext yl) (by intro o ho; simp only [List.mem_cons, List.not_mem_nil, or_false] at ho; rcases ho with rfl; exact ok_small _ rfl rfl (by simp)) (Utf8Tabs_below hT (ext_trans hx yl))).mono ?_
    rintro e v3 ⟨rfl, y⟩
    rw [D3.out]
    replace hx := ext_trans hx (ext_trans yl y)
    clear y yl rl
    by_cases g8 : 1 + less ≤ 536870912
    · rw [if_pos g8]
      go_wp2_with (go_at_call 11; refine Hid.out ?_)
      refine Lib.hid ?_
      refine (known15_any _ (Utf8Tabs_below hT hx)).mono ?_
      rintro e w9 ⟨rfl, y⟩
      replace hx := ext_trans hx y
      go_wp2_with (fail)
      go_ret
      exact ⟨by first | rfl | trace_state, hx⟩
    · rw [if_neg g8]
      have g8d : decide (1 + less ≤ 536870912) = false := decide_eq_false g8
      go_wp2_with (go_at_call 11; refine Hid.out ?_)
      refine Lib.hid ?_
      refine (known15_any _ (Utf8Tabs_below hT hx)).mono ?_
      rintro e w9 ⟨rfl, y⟩
      replace hx := ext_trans hx y
      go_wp2_with (fail)
      go_ret
      exact ⟨by first | rfl | trace_state, hx⟩
  have hF0 : (F == 0) = false := beq_eq_false_iff_ne.2 h0
  have hFF := Lib.hid h0
  clear h0
  by_cases h3 : F = 3 ∨ F = 4 ∨ F = 5
  · have hf := D1.out h3
    have HF1 := Lib.hid hf
    clear hf
    rcases h3 with h3 | h3 | h3 <;> subst h3
    all_goals
      go_wp2_with (go_at_call 13; refine Hid.out ?_)
      refine Lib.hid ?_
      refine (fitsO_any s l0 A1 n1 c1 l1 (n - less) most _ N1.out (r1.ext hx) (by omega) HS.out q1 (Utf8Tabs_below hT hx)).mono ?_
      rintro e v2 ⟨rfl, y⟩
      have HS := Lib.hid (HS.out.ext y)
      replace hx := ext_trans hx y
      clear y
      rw [HF1.out]
      obtain ⟨G, hG⟩ : ∃ X, fitsO l0 l1 n n = X := ⟨_, rfl⟩
      have hG0 : (G == 0) = false := beq_eq_false_iff_ne.2 (fun h => hFF.out (D2.out (hG.trans h)))
      have HG := Lib.hid hG
      clear hG
      go_wp2_with (go_at_call 13; refine Hid.out ?_)
      refine Lib.hid ?_
      refine (fitsO_any s l0 A1 n1 c1 l1 n n _ N1.out (r1.ext hx) (by omega) HS.out q1 (Utf8Tabs_below hT hx)).mono ?_
      rintro e v2 ⟨rfl, y⟩
      have HS := Lib.hid (HS.out.ext y)
      replace hx := ext_trans hx y
      clear y
      rw [HG.out]
      generalize v2 = u9 at *
      have g9 : 1 + less ≤ n := by omega
      have yl := ext_alloc u9 (.cells #[.int .u8 1, .int .i64 (1 + less), .slice none 0 0, .slice none 0 0, .slice none 0 0] 41)
      have rl := rd_ops u9 [(⟨⟨1, 1 + less, [], [], []⟩, none, 0, none, 0, none, 0⟩ : OpS)] sub_plain (cs := #[.int .u8 1, .int .i64 (1 + less), .slice none 0 0, .slice none 0 0, .slice none 0 0]) rfl (b := u9.heap.size) rfl
      go_wp2_with (go_at_call 13; refine Hid.out ?_)
      refine Lib.hid ?_
      refine (fitsO_any s l0 _ 1 1 _ n most _ rfl rl (by omega) (HS.out.ext yl) (by intro o ho; simp only [List.mem_cons, List.not_mem_nil, or_false] at ho; rcases ho with rfl; exact ok_small _ rfl rfl (by simp)) (Utf8Tabs_below hT (ext_trans hx yl))).mono ?_
      rintro e v3 ⟨rfl, y⟩
      rw [D3.out]
      replace hx := ext_trans hx (ext_trans yl y)
      clear y yl rl
      by_cases g8 : 1 + less ≤ 536870912
      · rw [if_pos g8]
        go_wp2_with (go_at_call 11; refine Hid.out ?_)
        refine Lib.hid ?_
        refine (known15_any _ (Utf8Tabs_below hT hx)).mono ?_
        rintro e w9 ⟨rfl, y⟩
        replace hx := ext_trans hx y
        go_wp2_with (fail)
        go_ret
        exact ⟨by first | rfl | trace_state, hx⟩
      · rw [if_neg g8]
        have g8d : decide (1 + less ≤ 536870912) = false := decide_eq_false g8
        go_wp2_with (go_at_call 11; refine Hid.out ?_)
        refine Lib.hid ?_
        refine (known15_any _ (Utf8Tabs_below hT hx)).mono ?_
        rintro e w9 ⟨rfl, y⟩
        replace hx := ext_trans hx y
        go_wp2_with (fail)
        go_ret
        exact ⟨by first | rfl | trace_state, hx⟩
  have h31 : (F == 3) = false := beq_eq_false_iff_ne.2 (by omega)
  have h41 : (F == 4) = false := beq_eq_false_iff_ne.2 (by omega)
  have h51 : (F == 5) = false := beq_eq_false_iff_ne.2 (by omega)
  clear h3
  obtain ⟨G, hG⟩ : ∃ X, fitsO l0 l1 n n = X := ⟨_, rfl⟩
  have hG0 : (G == 0) = false := beq_eq_false_iff_ne.2 (fun h => hFF.out (D2.out (hG.trans h)))
  have HG := Lib.hid hG
  clear hG
  go_wp2_with (go_at_call 13; refine Hid.out ?_)
  refine Lib.hid ?_
  refine (fitsO_any s l0 A1 n1 c1 l1 n n _ N1.out (r1.ext hx) (by omega) HS.out q1 (Utf8Tabs_below hT hx)).mono ?_
  rintro e v2 ⟨rfl, y⟩
  have HS := Lib.hid (HS.out.ext y)
  replace hx := ext_trans hx y
  clear y
  rw [HG.out]
  generalize v2 = u9 at *
  have g9 : 1 + less ≤ n := by omega
  have yl := ext_alloc u9 (.cells #[.int .u8 1, .int .i64 (1 + less), .slice none 0 0, .slice none 0 0, .slice none 0 0] 41)
  have rl := rd_ops u9 [(⟨⟨1, 1 + less, [], [], []⟩, none, 0, none, 0, none, 0⟩ : OpS)] sub_plain (cs := #[.int .u8 1, .int .i64 (1 + less), .slice none 0 0, .slice none 0 0, .slice none 0 0]) rfl (b := u9.heap.size) rfl
  go_wp2_with (go_at_call 13; refine Hid.out ?_)
  refine Lib.hid ?_
  refine (fitsO_any s l0 _ 1 1 _ n most _ rfl rl (by omega) (HS.out.ext yl) (by intro o ho; simp only [List.mem_cons, List.not_mem_nil, or_false] at ho; rcases ho with rfl; exact ok_small _ rfl rfl (by simp)) (Utf8Tabs_below hT (ext_trans hx yl))).mono ?_
  rintro e v3 ⟨rfl, y⟩
  rw [D3.out]
  replace hx := ext_trans hx (ext_trans yl y)
  clear y yl rl
  by_cases g8 : 1 + less ≤ 536870912
  · rw [if_pos g8]
    go_wp2_with (go_at_call 11; refine Hid.out ?_)
    refine Lib.hid ?_
    refine (known15_any _ (Utf8Tabs_below hT hx)).mono ?_
    rintro e w9 ⟨rfl, y⟩
    replace hx := ext_trans hx y
    go_wp2_with (fail)
    go_ret
    exact ⟨by first | rfl | trace_state, hx⟩
  · rw [if_neg g8]
    have g8d : decide (1 + less ≤ 536870912) = false := decide_eq_false g8
    go_wp2_with (go_at_call 11; refine Hid.out ?_)
    refine Lib.hid ?_
    refine (known15_any _ (Utf8Tabs_below hT hx)).mono ?_
    rintro e w9 ⟨rfl, y⟩
    replace hx := ext_trans hx y
    go_wp2_with (fail)
    go_ret
    exact ⟨by first | rfl | trace_state, hx⟩
end Go.Proofs.YtnhmbocgopjbjaaDoor
