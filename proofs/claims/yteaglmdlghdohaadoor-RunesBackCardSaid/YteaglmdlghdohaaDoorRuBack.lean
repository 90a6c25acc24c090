/- The walk of rubriclaw01.RunesBack. -/
import Derived.Test.YteaglmdlghdohaaDoorRuTexts
namespace Go.Proofs.YteaglmdlghdohaaDoor
open Go.RowKit
set_option linter.unusedVariables false
set_option linter.unusedSimpArgs false

set_option maxHeartbeats 4000000 in
theorem runesBack_any (A B : Option Addr) (n m c d : Nat) (l b : List Int) (w : World) (hn : n = l.length) (hm : m = b.length) (hmd : m ≤ d) (h1 : RdI32 w w.heap.size A l) (h2 : RdU8 w w.heap.size B b)
    (hu : ∀ x ∈ b, 0 ≤ x ∧ x ≤ 255) (hT : Lib.Utf8Tabs 0 1 w) :
    Calls Tryd.prog 4 #[.slice A n c, .slice B m d] w (YesB w) := by
  have N := Lib.hid hn
  have M := Lib.hid hm
  clear hn hm
  by_cases g1 : 3000 < n
  · have g1z : (3000 : Int) < (n : Int) := by omega
    go_enter Tryd.func4, Tryd.ntmps4
    go_wp2_with (go_at_call 7; refine Hid.out ?_)
    refine Lib.hid ?_
    refine (known_any w hT).mono ?_
    rintro e w1 ⟨rfl, y⟩
    go_wp2_with (fail)
    go_ret
    exact ⟨rfl, y⟩
  · by_cases g2 : 3000 < m
    · have g1z : ¬ ((3000 : Int) < (n : Int)) := by omega
      have g2z : (3000 : Int) < (m : Int) := by omega
      go_enter Tryd.func4, Tryd.ntmps4
      go_wp2_with (go_at_call 7; refine Hid.out ?_)
      refine Lib.hid ?_
      refine (known_any w hT).mono ?_
      rintro e w1 ⟨rfl, y⟩
      go_wp2_with (fail)
      go_ret
      exact ⟨rfl, y⟩
    · have g1z : ¬ ((3000 : Int) < (n : Int)) := by omega
      have g2z : ¬ ((3000 : Int) < (m : Int)) := by omega
      go_enter Tryd.func4, Tryd.ntmps4
      go_wp2_with (go_at_call 8; refine Hid.out ?_)
      refine Lib.hid ?_
      refine (bytes_any A n c l w N.out h1 (by omega)).mono ?_
      intro e w3 h
      obtain ⟨A3, n3, c3, rfl, h3, hc3, r3, y3⟩ := bytes_out h
      have hl3 : n3 ≤ 12000 := by rw [h3]; have := outB_len l; have := N.out; omega
      have H3 := Lib.hid h3
      clear h h3
      by_cases hok : okR l = true
      · have hE : outE l = 0 := if_pos hok
        rw [hE]
        clear hE
        go_wp2_with (go_at_call 10; refine Hid.out ?_)
        refine Lib.hid ?_
        refine (read_any A3 n3 c3 (outB l) w3 H3.out hc3 r3 (by omega) (outB_mem l) (Utf8Tabs_below hT y3)).mono ?_
        have hB : readR (outB l) = some l := by rw [outB, if_pos hok]; exact read_back hok
        rw [hB]
        intro e w5 h
        obtain ⟨A5, n5, c5, rfl, h5, hc5, r5, y5⟩ := read_out h
        simp only [Option.getD_some] at h5 r5
        have hE : outR (some l) = 0 := rfl
        rw [hE]
        have h5n : n5 = n := by rw [h5, N.out]
        subst h5n
        have x6 := ext_trans y3 y5
        clear h h5 hE hB r3 H3 hok
        go_wp2_with (go_at_call 12; refine Hid.out ?_)
        refine Lib.hid ?_
        refine (refSame_any A5 A n5 n5 c5 c l l w5 N.out N.out r5 (h1.ext x6) (by omega) (by omega)).mono ?_
        rw [decide_eq_true rfl]
        rintro e w7 ⟨rfl, q7, hq7⟩
        have y7 : Below w5.heap.size w5 w7 := by rw [hq7]; exact ext_drew w5 q7
        have x8 := ext_trans x6 y7
        clear hq7 y7 r5 x6
        go_wp2_with (go_at_call 10; refine Hid.out ?_)
        refine Lib.hid ?_
        refine (read_any B m d b w7 M.out hmd (h2.ext x8) (by omega) hu (Utf8Tabs_below hT x8)).mono ?_
        intro e w6 h
        obtain ⟨A6, n6, c6, rfl, h6, hc6, r6, y6⟩ := read_out h
        clear h
        have x7 := ext_trans x8 y6
        generalize hR : readR b = R at *
        cases R with
        | none =>
          have hz : n6 = 0 := by rw [h6]; rfl
          subst hz
          have hE : outR none = 3 := rfl
          rw [hE]
          clear h6 hE r6 hR
          go_wp2_with (go_at_call 7; refine Hid.out ?_)
          refine Lib.hid ?_
          refine (known_any w6 (Utf8Tabs_below hT x7)).mono ?_
          rintro e wz ⟨rfl, yz⟩
          go_wp2_with (fail)
          go_ret
          exact ⟨rfl, ext_trans x7 yz⟩
        | some K =>
          have hk := read_iff hu hR
          have hE : outR (some K) = 0 := rfl
          rw [hE]
          have hL : n6 ≤ 3000 := by rw [h6]; have := readR_len hu hR; have := M.out; simp only [Option.getD_some]; omega
          have H6 := Lib.hid h6
          have HK := Lib.hid hk
          clear h6 hE hR hk
          go_wp2_with (go_at_call 8; refine Hid.out ?_)
          refine Lib.hid ?_
          refine (bytes_any A6 n6 c6 K w6 H6.out r6 (by omega)).mono ?_
          intro e w8 h
          obtain ⟨A8, n8, c8, rfl, h8, hc8, r8, y8⟩ := bytes_out h
          have hE : outE K = 0 := if_pos HK.out.1
          have hB : outB K = b := by rw [outB, if_pos HK.out.1]; exact HK.out.2
          rw [hE]
          rw [hB] at h8 r8
          have x9 := ext_trans x7 y8
          have hcv1 : (convert 23 9 (.slice A8 n8 c8)).run Tryd.prog w8 = .ok (.string (strB b)) w8 := conv_rd h8 r8 hu
          have hcv2 : (convert 23 9 (.slice B m d)).run Tryd.prog w8 = .ok (.string (strB b)) w8 := conv_rd M.out (h2.ext x9) hu
          generalize strB b = S at hcv1 hcv2
          clear h h8 hE hB r6
          go_wp2_with (go_at_call 7; refine Hid.out ?_)
          refine Lib.hid ?_
          refine (known_any w8 (Utf8Tabs_below hT x9)).mono ?_
          rintro e wz ⟨rfl, yz⟩
          go_wp2_with (fail)
          go_ret
          exact ⟨rfl, ext_trans x9 yz⟩
      · have hE : outE l = 3 := if_neg hok
        rw [hE]
        clear hE hok
        go_wp2_with (go_at_call 10; refine Hid.out ?_)
        refine Lib.hid ?_
        refine (read_any B m d b w3 M.out hmd (h2.ext y3) (by omega) hu (Utf8Tabs_below hT y3)).mono ?_
        intro e w6 h
        obtain ⟨A6, n6, c6, rfl, h6, hc6, r6, y6⟩ := read_out h
        clear h
        have x7 := ext_trans y3 y6
        generalize hR : readR b = R at *
        cases R with
        | none =>
          have hz : n6 = 0 := by rw [h6]; rfl
          subst hz
          have hE : outR none = 3 := rfl
          rw [hE]
          clear h6 hE r6 hR
          go_wp2_with (go_at_call 7; refine Hid.out ?_)
          refine Lib.hid ?_
          refine (known_any w6 (Utf8Tabs_below hT x7)).mono ?_
          rintro e wz ⟨rfl, yz⟩
          go_wp2_with (fail)
          go_ret
          exact ⟨rfl, ext_trans x7 yz⟩
        | some K =>
          have hk := read_iff hu hR
          have hE : outR (some K) = 0 := rfl
          rw [hE]
          have hL : n6 ≤ 3000 := by rw [h6]; have := readR_len hu hR; have := M.out; simp only [Option.getD_some]; omega
          have H6 := Lib.hid h6
          have HK := Lib.hid hk
          clear h6 hE hR hk
          go_wp2_with (go_at_call 8; refine Hid.out ?_)
          refine Lib.hid ?_
          refine (bytes_any A6 n6 c6 K w6 H6.out r6 (by omega)).mono ?_
          intro e w8 h
          obtain ⟨A8, n8, c8, rfl, h8, hc8, r8, y8⟩ := bytes_out h
          have hE : outE K = 0 := if_pos HK.out.1
          have hB : outB K = b := by rw [outB, if_pos HK.out.1]; exact HK.out.2
          rw [hE]
          rw [hB] at h8 r8
          have x9 := ext_trans x7 y8
          have hcv1 : (convert 23 9 (.slice A8 n8 c8)).run Tryd.prog w8 = .ok (.string (strB b)) w8 := conv_rd h8 r8 hu
          have hcv2 : (convert 23 9 (.slice B m d)).run Tryd.prog w8 = .ok (.string (strB b)) w8 := conv_rd M.out (h2.ext x9) hu
          generalize strB b = S at hcv1 hcv2
          clear h h8 hE hB r6
          go_wp2_with (go_at_call 7; refine Hid.out ?_)
          refine Lib.hid ?_
          refine (known_any w8 (Utf8Tabs_below hT x9)).mono ?_
          rintro e wz ⟨rfl, yz⟩
          go_wp2_with (fail)
          go_ret
          exact ⟨rfl, ext_trans x9 yz⟩
end Go.Proofs.YteaglmdlghdohaaDoor
