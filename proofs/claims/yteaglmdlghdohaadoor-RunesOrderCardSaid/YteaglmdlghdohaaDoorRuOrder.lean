/- The walk of rubriclaw01.RunesOrder. -/
import Derived.Test.YteaglmdlghdohaaDoorRuOrderLaw
namespace Go.Proofs.YteaglmdlghdohaaDoor
open Go.RowKit
set_option linter.unusedVariables false
set_option linter.unusedSimpArgs false

theorem bytesR_le (l : List Int) (i : Nat) : (bytesR (l.take i)).length ≤ 4 * l.length := by
  have h1 := bytesR_len (l.take i)
  have h2 := List.length_take (i := i) (l := l)
  omega

set_option maxHeartbeats 8000000 in
theorem runesOrder_any (A B : Option Addr) (n m c d : Nat) (a b : List Int) (w : World) (hn : n = a.length) (hm : m = b.length) (h1 : RdI32 w w.heap.size A a) (h2 : RdI32 w w.heap.size B b)
    (hT : Lib.Utf8Tabs 0 1 w) :
    Calls Tryd.prog 6 #[.slice A n c, .slice B m d] w (YesB w) := by
  have N := Lib.hid hn
  have M := Lib.hid hm
  clear hn hm
  by_cases g1 : 1000 < n
  · have g1z : (1000 : Int) < (n : Int) := by omega
    go_enter Tryd.func6, Tryd.ntmps6
    go_wp2_with (go_at_call 7; refine Hid.out ?_)
    refine Lib.hid ?_
    refine (known_any w hT).mono ?_
    rintro e w1 ⟨rfl, y⟩
    go_wp2_with (fail)
    go_ret
    exact ⟨rfl, y⟩
  · by_cases g2 : 1000 < m
    · have g1z : ¬ ((1000 : Int) < (n : Int)) := by omega
      have g2z : (1000 : Int) < (m : Int) := by omega
      go_enter Tryd.func6, Tryd.ntmps6
      go_wp2_with (go_at_call 7; refine Hid.out ?_)
      refine Lib.hid ?_
      refine (known_any w hT).mono ?_
      rintro e w1 ⟨rfl, y⟩
      go_wp2_with (fail)
      go_ret
      exact ⟨rfl, y⟩
    · have g1z : ¬ ((1000 : Int) < (n : Int)) := by omega
      have g2z : ¬ ((1000 : Int) < (m : Int)) := by omega
      go_enter Tryd.func6, Tryd.ntmps6
      go_wp2_with (go_at_call 8; refine Hid.out ?_)
      refine Lib.hid ?_
      refine (bytes_any A n c a w N.out h1 (by omega)).mono ?_
      intro e w3 h
      obtain ⟨A3, n3, c3, rfl, h3, hc3, r3, y3⟩ := bytes_out h
      obtain ⟨EA, hEA⟩ : ∃ X, outE a = X := ⟨_, rfl⟩
      rw [hEA]
      have HEA := Lib.hid hEA
      have H3 := Lib.hid h3
      clear h h3 hEA
      go_wp2_with (go_at_call 8; refine Hid.out ?_)
      refine Lib.hid ?_
      refine (bytes_any B m d b w3 M.out (h2.ext y3) (by omega)).mono ?_
      intro e w4 h
      obtain ⟨A4, n4, c4, rfl, h4, hc4, r4, y4⟩ := bytes_out h
      obtain ⟨EB, hEB⟩ : ∃ X, outE b = X := ⟨_, rfl⟩
      rw [hEB]
      have HEB := Lib.hid hEB
      have H4 := Lib.hid h4
      have x4 := ext_trans y3 y4
      have r34 := r3.ext y4
      clear h h4 hEB y3 y4 r3
      by_cases oka : okR a = true
      · have hE : EA = 0 := by rw [← HEA.out]; exact if_pos oka
        subst hE
        by_cases okb : okR b = true
        · have hE : EB = 0 := by rw [← HEB.out]; exact if_pos okb
          subst hE
          have hb1 : outB a = bytesR a := if_pos oka
          have hb2 : outB b = bytesR b := if_pos okb
          rw [hb1] at H3 r34
          rw [hb2] at H4 r4
          have OK := Lib.hid (And.intro oka okb)
          have h1' := h1.ext x4
          have h2' := h2.ext x4
          have hl3 : n3 ≤ 4000 := by rw [H3.out]; have := bytesR_len a; have := N.out; omega
          clear hb1 hb2 oka okb HEA HEB
          go_wp2_with (fail)
          go_loopg [9, 41] n (fun g kv iv wr => ∃ (i q : Nat), i ≤ n ∧ g = n - i ∧ iv = .int .i64 (i : Int) ∧ kv = .int .i64 (q : Int) ∧ w4 = wr ∧ Hid (q = (bytesR (a.take i)).length))
          case atStart => exact ⟨0, 0, by omega, rfl, rfl, rfl, rfl, Lib.hid rfl⟩
          case round =>
            obtain ⟨i, q, hi, hg, rfl, rfl, rfl, HQ⟩ := hrel
            have HG := Lib.hid hg
            clear hg
            by_cases hlt : i < n
            · obtain ⟨ad, r, rfl, _, _, hri, hc1⟩ := h1'.el (i := i) (by have := N.out; omega)
              have r0 : w4.cell? (ad.add (i * 1)) = some (.int .i32 r) := by have := hc1 0 _ rfl; rwa [add_zero'] at this
              rw [Nat.mul_one] at r0
              have hqb : q ≤ 4000 := by rw [HQ.out]; have := bytesR_le a i; have := N.out; omega
              have hq1 : (bytesR (a.take (i + 1))).length = q + (encR r).length := by rw [bytesR_take hri, List.length_append, ← HQ.out]
              rw [encR_n] at hq1
              clear hc1 hri HQ
              by_cases z1 : r < 128
              · rw [if_pos z1] at hq1
                have y1 : ¬ (128 ≤ r) := by omega
                have y2 : ¬ (2048 ≤ r) := by omega
                have y3 : ¬ (65536 ≤ r) := by omega
                clear z1
                have HQ1 : Hid (q + 1 = (bytesR (a.take (i + 1))).length) := Lib.hid hq1.symm
                clear hq1
                go_wp2_with (fail)
                go_roundg (n - (i + 1))
                case measure => have := HG.out; omega
                case rel => exact ⟨i + 1, q + 1, by omega, rfl, by go_num, by go_num, rfl, HQ1⟩
              · rw [if_neg z1] at hq1
                have y1 : 128 ≤ r := by omega
                by_cases z2 : r < 2048
                · rw [if_pos z2] at hq1
                  have y2 : ¬ (2048 ≤ r) := by omega
                  have y3 : ¬ (65536 ≤ r) := by omega
                  clear z1 z2
                  have HQ1 : Hid (q + 2 = (bytesR (a.take (i + 1))).length) := Lib.hid hq1.symm
                  clear hq1
                  go_wp2_with (fail)
                  go_roundg (n - (i + 1))
                  case measure => have := HG.out; omega
                  case rel => exact ⟨i + 1, q + 2, by omega, rfl, by go_num, by go_num, rfl, HQ1⟩
                · rw [if_neg z2] at hq1
                  have y2 : 2048 ≤ r := by omega
                  by_cases z3 : r < 65536
                  · rw [if_pos z3] at hq1
                    have y3 : ¬ (65536 ≤ r) := by omega
                    clear z1 z2 z3
                    have HQ1 : Hid (q + 3 = (bytesR (a.take (i + 1))).length) := Lib.hid hq1.symm
                    clear hq1
                    go_wp2_with (fail)
                    go_roundg (n - (i + 1))
                    case measure => have := HG.out; omega
                    case rel => exact ⟨i + 1, q + 3, by omega, rfl, by go_num, by go_num, rfl, HQ1⟩
                  · rw [if_neg z3] at hq1
                    have y3 : 65536 ≤ r := by omega
                    clear z1 z2 z3
                    have HQ1 : Hid (q + 4 = (bytesR (a.take (i + 1))).length) := Lib.hid hq1.symm
                    clear hq1
                    go_wp2_with (fail)
                    go_roundg (n - (i + 1))
                    case measure => have := HG.out; omega
                    case rel => exact ⟨i + 1, q + 4, by omega, rfl, by go_num, by go_num, rfl, HQ1⟩
            · have hq3 : q = n3 := by rw [HQ.out, H3.out, List.take_of_length_le (by have := N.out; omega)]
              subst hq3
              clear HQ
              go_wp2_with (fail)
              go_loopg [11] n (fun g kv wr => ∃ (k dd : Nat), k ≤ n ∧ k ≤ m ∧ g = n - k ∧ kv = .int .i64 (k : Int) ∧ wr = w4.drewN dd ∧ Hid (a.take k = b.take k))
              case atStart => exact ⟨0, 0, by omega, by omega, rfl, rfl, rfl, Lib.hid (by simp)⟩
              case round =>
                obtain ⟨k, dd, hk1, hk2, hg, rfl, rfl, HK⟩ := hrel
                have HG2 := Lib.hid hg
                have xd : Below w4.heap.size w4 (w4.drewN dd) := ext_drew w4 dd
                have x5 := ext_trans x4 xd
                clear hg
                have stop : ∀ (LV : Bool), lexI (bytesR a) (bytesR b) = LV → ∃ SA SB : ByteArray, (∀ W : World, Below w4.heap.size w4 W → (convert 23 9 (.slice A3 q c3)).run Tryd.prog W = .ok (.string SA) W) ∧ (∀ W : World, Below w4.heap.size w4 W → (convert 23 9 (.slice A4 n4 c4)).run Tryd.prog W = .ok (.string SB) W) ∧ Op.bytesLess SA.toList SB.toList = LV := fun LV hL =>
                  ⟨strB (bytesR a), strB (bytesR b), fun W hW => conv_rd H3.out (r34.ext hW) (bytesR_mem OK.out.1), fun W hW => conv_rd H4.out (r4.ext hW) (bytesR_mem OK.out.2), by rw [str_less (bytesR_mem OK.out.1) (bytesR_mem OK.out.2)]; exact hL⟩
                have STOP := Lib.hid stop
                clear stop
                by_cases km : k < m
                · by_cases kn : k < n
                  · obtain ⟨ad, r, rfl, _, _, hri, hc1⟩ := h1'.el (i := k) (by have := N.out; omega)
                    obtain ⟨ad2, s, rfl, _, _, hsi, hc2⟩ := h2'.el (i := k) (by have := M.out; omega)
                    have r0 : w4.cell? (ad.add (k * 1)) = some (.int .i32 r) := by have := hc1 0 _ rfl; rwa [add_zero'] at this
                    have s0 : w4.cell? (ad2.add (k * 1)) = some (.int .i32 s) := by have := hc2 0 _ rfl; rwa [add_zero'] at this
                    rw [Nat.mul_one] at r0 s0
                    have HRI := Lib.hid hri
                    have HSI := Lib.hid hsi
                    clear hc1 hc2 hri hsi
                    by_cases hrs : r = s
                    · subst hrs
                      have HK1 : Hid (a.take (k + 1) = b.take (k + 1)) := Lib.hid (by
                        obtain ⟨z1, e1⟩ := List.getElem?_eq_some_iff.1 HRI.out
                        obtain ⟨z2, e2⟩ := List.getElem?_eq_some_iff.1 HSI.out
                        rw [List.take_succ_eq_append_getElem z1, List.take_succ_eq_append_getElem z2, e1, e2, HK.out])
                      go_wp2_with (go_quiet (fail))
                      go_roundg (n - (k + 1))
                      case measure => have := HG2.out; omega
                      case rel => exact ⟨k + 1, _, by omega, by omega, rfl, by go_num, rfl, HK1⟩
                    · have hrb : (r == s) = false := beq_eq_false_iff_ne.2 hrs
                      have HL : Hid (lexI (bytesR a) (bytesR b) = decide (r < s)) := Lib.hid (less_rune OK.out.1 OK.out.2 HK.out HRI.out HSI.out hrs)
                      have hkn : ((k : Int) == (n : Int)) = false := beq_eq_false_iff_ne.2 (by omega)
                      have hkn2 : (k == n) = false := beq_eq_false_iff_ne.2 (by omega)
                      clear hrs
                      obtain ⟨SA, SB, ca, cb, hle⟩ := STOP.out _ HL.out
                      have hca : ∀ e, (convert 23 9 (.slice A3 q c3)).run Tryd.prog (w4.drewN e) = .ok (.string SA) (w4.drewN e) := fun e => ca _ (ext_drew w4 e)
                      have hcb : ∀ e, (convert 23 9 (.slice A4 n4 c4)).run Tryd.prog (w4.drewN e) = .ok (.string SB) (w4.drewN e) := fun e => cb _ (ext_drew w4 e)
                      clear ca cb
                      go_wp2_with (first
                        | (go_at_call 7; refine Hid.out ?_)
                        | go_quiet (fail))
                      refine Lib.hid ?_
                      refine (known_any _ (Utf8Tabs_below hT (ext_trans x4 (ext_drew w4 _)))).mono ?_
                      rintro e wz ⟨rfl, yz⟩
                      go_wp2_with (fail)
                      go_ret
                      exact ⟨rfl, ext_trans (ext_trans x4 (ext_drew w4 _)) yz⟩
                  · have HL : Hid (lexI (bytesR a) (bytesR b) = true) := Lib.hid (less_first HK.out (by have := N.out; omega) (by have := M.out; omega))
                    have hkn1 : k = n := by omega
                    subst hkn1
                    obtain ⟨SA, SB, ca, cb, hle⟩ := STOP.out _ HL.out
                    have hca : ∀ e, (convert 23 9 (.slice A3 q c3)).run Tryd.prog (w4.drewN e) = .ok (.string SA) (w4.drewN e) := fun e => ca _ (ext_drew w4 e)
                    have hcb : ∀ e, (convert 23 9 (.slice A4 n4 c4)).run Tryd.prog (w4.drewN e) = .ok (.string SB) (w4.drewN e) := fun e => cb _ (ext_drew w4 e)
                    clear ca cb
                    go_wp2_with (first
                      | (go_at_call 7; refine Hid.out ?_)
                      | go_quiet (fail))
                    refine Lib.hid ?_
                    refine (known_any _ (Utf8Tabs_below hT (ext_trans x4 (ext_drew w4 _)))).mono ?_
                    rintro e wz ⟨rfl, yz⟩
                    go_wp2_with (fail)
                    go_ret
                    exact ⟨rfl, ext_trans (ext_trans x4 (ext_drew w4 _)) yz⟩
                · have HL : Hid (lexI (bytesR a) (bytesR b) = false) := Lib.hid (less_end HK.out (by have := M.out; omega))
                  have hkm1 : k = m := by omega
                  subst hkm1
                  by_cases kn : k < n
                  · have kn0 : True := trivial
                    obtain ⟨SA, SB, ca, cb, hle⟩ := STOP.out _ HL.out
                    have hca : ∀ e, (convert 23 9 (.slice A3 q c3)).run Tryd.prog (w4.drewN e) = .ok (.string SA) (w4.drewN e) := fun e => ca _ (ext_drew w4 e)
                    have hcb : ∀ e, (convert 23 9 (.slice A4 n4 c4)).run Tryd.prog (w4.drewN e) = .ok (.string SB) (w4.drewN e) := fun e => cb _ (ext_drew w4 e)
                    clear ca cb
                    go_wp2_with (first
                      | (go_at_call 7; refine Hid.out ?_)
                      | go_quiet (fail))
                    refine Lib.hid ?_
                    refine (known_any _ (Utf8Tabs_below hT (ext_trans x4 (ext_drew w4 _)))).mono ?_
                    rintro e wz ⟨rfl, yz⟩
                    go_wp2_with (fail)
                    go_ret
                    exact ⟨rfl, ext_trans (ext_trans x4 (ext_drew w4 _)) yz⟩
                  · have hkn1 : k = n := by omega
                    subst hkn1
                    obtain ⟨SA, SB, ca, cb, hle⟩ := STOP.out _ HL.out
                    have hca : ∀ e, (convert 23 9 (.slice A3 q c3)).run Tryd.prog (w4.drewN e) = .ok (.string SA) (w4.drewN e) := fun e => ca _ (ext_drew w4 e)
                    have hcb : ∀ e, (convert 23 9 (.slice A4 n4 c4)).run Tryd.prog (w4.drewN e) = .ok (.string SB) (w4.drewN e) := fun e => cb _ (ext_drew w4 e)
                    clear ca cb
                    go_wp2_with (first
                      | (go_at_call 7; refine Hid.out ?_)
                      | go_quiet (fail))
                    refine Lib.hid ?_
                    refine (known_any _ (Utf8Tabs_below hT (ext_trans x4 (ext_drew w4 _)))).mono ?_
                    rintro e wz ⟨rfl, yz⟩
                    go_wp2_with (fail)
                    go_ret
                    exact ⟨rfl, ext_trans (ext_trans x4 (ext_drew w4 _)) yz⟩
        · have hE : EB = 3 := by rw [← HEB.out]; exact if_neg okb
          subst hE
          go_wp2_with (go_at_call 7; refine Hid.out ?_)
          refine Lib.hid ?_
          refine (known_any w4 (Utf8Tabs_below hT x4)).mono ?_
          rintro e wz ⟨rfl, yz⟩
          go_wp2_with (fail)
          go_ret
          exact ⟨rfl, ext_trans x4 yz⟩
      · have hE : EA = 3 := by rw [← HEA.out]; exact if_neg oka
        subst hE
        go_wp2_with (go_at_call 7; refine Hid.out ?_)
        refine Lib.hid ?_
        refine (known_any w4 (Utf8Tabs_below hT x4)).mono ?_
        rintro e wz ⟨rfl, yz⟩
        go_wp2_with (fail)
        go_ret
        exact ⟨rfl, ext_trans x4 yz⟩
end Go.Proofs.YteaglmdlghdohaaDoor
