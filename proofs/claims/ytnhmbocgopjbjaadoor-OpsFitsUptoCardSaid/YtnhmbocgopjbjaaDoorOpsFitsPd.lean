/- The walk of rubriclaw15.OpsFits: whatever is handed in, it answers true and changes nothing that was there. -/
import Derived.Test.YtnhmbocgopjbjaaDoorPk16
import Derived.Test.YtnhmbocgopjbjaaDoorPk17
namespace Go.Proofs.YtnhmbocgopjbjaaDoor
open Go.RowKit
set_option linter.unusedVariables false
set_option linter.unusedSimpArgs false

set_option maxRecDepth 100000 in
set_option maxHeartbeats 6400000 in
theorem opsFits_any (A0 A1 : Option Addr) (n0 n1 c0 c1 : Nat) (l0 : List Ky) (l1 : List OpS) (n most more : Int) (w : World)
    (e0 : n0 = l0.length) (e1 : n1 = l1.length) (r0 : RdKy w w.heap.size A0 l0) (r1 : RdOp w w.heap.size A1 l1) (b0 : n0 ≤ 1048576) (b1 : n1 ≤ 1048576) (q1 : ∀ o ∈ l1, okOp o.o) (hT : Lib.Utf8Tabs 1 2 w) :
    Calls Tryd.prog 3 #[.slice A0 n0 c0, .slice A1 n1 c1, .int .i64 n, .int .i64 most, .int .i64 more] w fun e w' => e = .returned (.bool true) ∧ Below w.heap.size w w' := by
  have N1 := Lib.hid e1
  have N0 := Lib.hid e0
  have hx := ext_alloc w (.cells #[.slice A1 n1 c1] 23)
  have rs : Rd SX.enc 1 (w.alloc (.cells #[.slice A1 n1 c1] 23)) (w.alloc (.cells #[.slice A1 n1 c1] 23)).heap.size (some ⟨w.heap.size, 0, none⟩) [⟨A1, c1, l1⟩] := Rd.new (enc := SX.enc) (size := 1) (fun _ => rfl) w 23 [⟨A1, c1, l1⟩] (cs := #[.slice A1 n1 c1]) (by simp [SX.enc, ← N1.out]) rfl
  clear e0 e1
  go_enter Tryd.func3, Tryd.ntmps3
  go_wp2_with (go_at_call 10; refine Hid.out ?_)
  refine Lib.hid ?_
  refine (great15_any A0 _ n0 c0 1 1 [⟨A1, c1, l1⟩] _ rfl (by omega) rs (fun s hs => by
    simp at hs; subst hs
    exact ⟨r1.ext hx, by have := N1.out; simp only; omega, q1⟩) (by omega)).mono ?_
  rintro e v ⟨g, rfl, hgr, d, rfl⟩
  have hx := ext_trans hx (ext_drew _ d)
  generalize (w.alloc (.cells #[.slice A1 n1 c1] 23)).drewN d = u0 at *
  clear hgr rs
  cases g
  case true =>
    go_wp2_with (go_at_call 11; refine Hid.out ?_)
    refine Lib.hid ?_
    refine (known15_any _ (Utf8Tabs_below hT hx)).mono ?_
    rintro e w9 ⟨rfl, y⟩
    replace hx := ext_trans hx y
    go_wp2_with (fail)
    go_ret
    exact ⟨by first | rfl | trace_state, hx⟩
  by_cases g0 : n < 1
  · skip
    go_wp2_with (go_at_call 11; refine Hid.out ?_)
    refine Lib.hid ?_
    refine (known15_any _ (Utf8Tabs_below hT hx)).mono ?_
    rintro e w9 ⟨rfl, y⟩
    replace hx := ext_trans hx y
    go_wp2_with (fail)
    go_ret
    exact ⟨by first | rfl | trace_state, hx⟩
  by_cases g1 : 1073741824 < n
  · skip
    go_wp2_with (go_at_call 11; refine Hid.out ?_)
    refine Lib.hid ?_
    refine (known15_any _ (Utf8Tabs_below hT hx)).mono ?_
    rintro e w9 ⟨rfl, y⟩
    replace hx := ext_trans hx y
    go_wp2_with (fail)
    go_ret
    exact ⟨by first | rfl | trace_state, hx⟩
  by_cases g2 : most < n
  · skip
    go_wp2_with (go_at_call 11; refine Hid.out ?_)
    refine Lib.hid ?_
    refine (known15_any _ (Utf8Tabs_below hT hx)).mono ?_
    rintro e w9 ⟨rfl, y⟩
    replace hx := ext_trans hx y
    go_wp2_with (fail)
    go_ret
    exact ⟨by first | rfl | trace_state, hx⟩
  by_cases g3 : 1073741824 < most
  · skip
    go_wp2_with (go_at_call 11; refine Hid.out ?_)
    refine Lib.hid ?_
    refine (known15_any _ (Utf8Tabs_below hT hx)).mono ?_
    rintro e w9 ⟨rfl, y⟩
    replace hx := ext_trans hx y
    go_wp2_with (fail)
    go_ret
    exact ⟨by first | rfl | trace_state, hx⟩
  by_cases g4 : more < 0
  · skip
    go_wp2_with (go_at_call 11; refine Hid.out ?_)
    refine Lib.hid ?_
    refine (known15_any _ (Utf8Tabs_below hT hx)).mono ?_
    rintro e w9 ⟨rfl, y⟩
    replace hx := ext_trans hx y
    go_wp2_with (fail)
    go_ret
    exact ⟨by first | rfl | trace_state, hx⟩
  by_cases g5 : 1073741824 < more
  · skip
    go_wp2_with (go_at_call 11; refine Hid.out ?_)
    refine Lib.hid ?_
    refine (known15_any _ (Utf8Tabs_below hT hx)).mono ?_
    rintro e w9 ⟨rfl, y⟩
    replace hx := ext_trans hx y
    go_wp2_with (fail)
    go_ret
    exact ⟨by first | rfl | trace_state, hx⟩
  go_wp2_with (go_at_call 12; refine Hid.out ?_)
  refine Lib.hid ?_
  refine (new_any A0 n0 c0 l0 _ N0.out (r0.ext hx) (by omega)).mono ?_
  rintro e v1 ⟨y, ⟨hm, s, rfl, hS⟩ | ⟨hm, rfl⟩⟩
  all_goals
    replace hx := ext_trans hx y
    clear y hm
  rotate_left
  · skip
    go_wp2_with (go_at_call 11; refine Hid.out ?_)
    refine Lib.hid ?_
    refine (known15_any _ (Utf8Tabs_below hT hx)).mono ?_
    rintro e w9 ⟨rfl, y⟩
    replace hx := ext_trans hx y
    go_wp2_with (fail)
    go_ret
    exact ⟨by first | rfl | trace_state, hx⟩
  have HS := Lib.hid hS
  clear hS
  have hw1 : IntKind.i64.wrap (most + more) = most + more := IntWalk.i64_in _ (by omega)
  have hw2 : IntKind.i64.wrap (n + more) = n + more := IntWalk.i64_in _ (by omega)
  obtain ⟨F, hF⟩ : ∃ X, fitsO l0 l1 n most = X := ⟨_, rfl⟩
  obtain ⟨G, hG⟩ : ∃ X, fitsO l0 l1 n (most + more) = X := ⟨_, rfl⟩
  obtain ⟨H, hH⟩ : ∃ X, fitsO l0 l1 (n + more) (most + more) = X := ⟨_, rfl⟩
  have HF := Lib.hid hF
  have HG := Lib.hid hG
  have HH := Lib.hid hH
  have D1 : Hid (¬ F = 0 → G = F ∨ (F = 8 ∧ G = 0)) := Lib.hid (by rw [← hF, ← hG]; exact fits_more (by omega) (by omega) (by omega))
  have D2 : Hid (F = 0 → G = 0 ∧ H = 0 ∧ 1 ≤ longO n l1 ∧ longO n l1 ≤ most) := Lib.hid (by rw [← hF, ← hG, ← hH]; exact fits_fits (by have := N1.out; omega) (by omega) (by omega) (by omega) (by omega))
  obtain ⟨K, hK⟩ : ∃ X, longO n l1 = X := ⟨_, rfl⟩
  have HK := Lib.hid hK
  rw [hK] at D2
  clear hF hG hH hK
  go_wp2_with (go_at_call 13; refine Hid.out ?_)
  refine Lib.hid ?_
  refine (fitsO_any s l0 A1 n1 c1 l1 n most _ N1.out (r1.ext hx) (by omega) HS.out q1 (Utf8Tabs_below hT hx)).mono ?_
  rintro e v2 ⟨rfl, y⟩
  have HS := Lib.hid (HS.out.ext y)
  replace hx := ext_trans hx y
  clear y
  rw [HF.out]
  go_wp2_with (go_at_call 13; refine Hid.out ?_)
  refine Lib.hid ?_
  refine (fitsO_any s l0 A1 n1 c1 l1 n (most + more) _ N1.out (r1.ext hx) (by omega) HS.out q1 (Utf8Tabs_below hT hx)).mono ?_
  rintro e v2 ⟨rfl, y⟩
  have HS := Lib.hid (HS.out.ext y)
  replace hx := ext_trans hx y
  clear y
  rw [HG.out]
  go_wp2_with (go_at_call 13; refine Hid.out ?_)
  refine Lib.hid ?_
  refine (fitsO_any s l0 A1 n1 c1 l1 (n + more) (most + more) _ N1.out (r1.ext hx) (by omega) HS.out q1 (Utf8Tabs_below hT hx)).mono ?_
  rintro e v2 ⟨rfl, y⟩
  have HS := Lib.hid (HS.out.ext y)
  replace hx := ext_trans hx y
  clear y
  rw [HH.out]
  by_cases hF : F = 0
  rotate_left
  · rcases D1.out hF with h | ⟨h, h'⟩
    · subst h
      have hne : (G == 0) = false := beq_eq_false_iff_ne.2 hF
      clear hF
      go_wp2_with (go_at_call 11; refine Hid.out ?_)
      refine Lib.hid ?_
      refine (known15_any _ (Utf8Tabs_below hT hx)).mono ?_
      rintro e w9 ⟨rfl, y⟩
      replace hx := ext_trans hx y
      go_wp2_with (fail)
      go_ret
      exact ⟨by first | rfl | trace_state, hx⟩
    · subst h h'
      clear hF
      go_wp2_with (go_at_call 11; refine Hid.out ?_)
      refine Lib.hid ?_
      refine (known15_any _ (Utf8Tabs_below hT hx)).mono ?_
      rintro e w9 ⟨rfl, y⟩
      replace hx := ext_trans hx y
      go_wp2_with (fail)
      go_ret
      exact ⟨by first | rfl | trace_state, hx⟩
  obtain ⟨h1, h2, h3, h4⟩ := D2.out hF
  subst hF h1 h2
  clear D1 D2
  obtain ⟨TK, hTK⟩ : ∃ X, takesP l1 = X := ⟨_, rfl⟩
  obtain ⟨MK, hMK⟩ : ∃ X, makesP l1 = X := ⟨_, rfl⟩
  obtain ⟨J, hJ⟩ : ∃ X, IntKind.i64.wrap (n - TK) = X := ⟨_, rfl⟩
  have hKJ : IntKind.i64.wrap (J + MK) = K := by rw [← HK.out, ← hJ, ← hTK, ← hMK]; rfl
  have HTK := Lib.hid hTK
  have HMK := Lib.hid hMK
  clear hTK hMK
  go_wp2_with (go_at_call 14; refine Hid.out ?_)
  refine Lib.hid ?_
  refine (takes_any A1 n1 c1 l1 _ N1.out (r1.ext hx).1 (by omega)).mono ?_
  rintro e v2 ⟨rfl, y⟩
  rw [HTK.out]
  have HS := Lib.hid (HS.out.ext y)
  replace hx := ext_trans hx y
  clear y
  go_wp2_with (go_at_call 15; refine Hid.out ?_)
  refine Lib.hid ?_
  refine (makes_any A1 n1 c1 l1 _ N1.out (r1.ext hx).1 (by omega)).mono ?_
  rintro e v2 ⟨rfl, y⟩
  rw [HMK.out]
  have HS := Lib.hid (HS.out.ext y)
  replace hx := ext_trans hx y
  clear y
  go_wp2_with (go_at_call 11; refine Hid.out ?_)
  refine Lib.hid ?_
  refine (known15_any _ (Utf8Tabs_below hT hx)).mono ?_
  rintro e w9 ⟨rfl, y⟩
  replace hx := ext_trans hx y
  go_wp2_with (fail)
  go_ret
  exact ⟨by first | rfl | trace_state, hx⟩
end Go.Proofs.YtnhmbocgopjbjaaDoor
