/- The walk of rubriclaw01.RunesJoin. -/
import Derived.Test.YteaglmdlghdohaaDoorRuTexts
namespace Go.Proofs.YteaglmdlghdohaaDoor
open Go.RowKit
set_option linter.unusedVariables false
set_option linter.unusedSimpArgs false

theorem okR_append (a b : List Int) : okR (a ++ b) = (okR a && okR b) := by simp [okR]
theorem bytesR_append (a b : List Int) : bytesR (a ++ b) = bytesR a ++ bytesR b := by simp [bytesR]
theorem nlR_append (a b : List Int) : nlR (a ++ b) = nlR a + nlR b := by simp [nlR]
theorem nlR_len (l : List Int) : nlR l ≤ l.length := by
  unfold nlR
  exact List.countP_le_length
theorem strB_size (l : List Int) : (strB l).size = l.length := by simp [strB, ByteArray.size]
theorem strB_add (l k : List Int) : strB l ++ strB k = strB (l ++ k) := by
  unfold strB
  rw [ByteArray.mk_append_mk, List.map_append]
theorem last_cut {a : List Int} (h : 0 < a.length) : ∃ a' r, a = a' ++ [r] ∧ a.drop (a.length - 1) = [r] := by
  rcases List.eq_nil_or_concat a with rfl | ⟨a', r, rfl⟩
  · simp at h
  · refine ⟨a', r, by simp, ?_⟩
    rw [List.concat_eq_append, List.length_append, List.length_singleton, Nat.add_sub_cancel, List.drop_left]
theorem Tryd.elI32 : Tryd.prog.elem 22 = 21 := by kernel_rfl
theorem size_i32 (W : World) : (sizeOf 21).run Tryd.prog W = .ok 1 W := by
  obtain ⟨i0, hi0, hz0, hz1, hz2⟩ := info_of Tryd.infoI32
  simp [sizeOf, typeInfo, hi0, hz1]

set_option maxHeartbeats 8000000 in
theorem runesJoin_any (A B : Option Addr) (n m c d : Nat) (a b : List Int) (w : World) (hn : n = a.length) (hm : m = b.length) (hnc : n ≤ c) (h1 : RdI32 w w.heap.size A a) (h2 : RdI32 w w.heap.size B b)
    (hT : Lib.Utf8Tabs 0 1 w) :
    Calls Tryd.prog 5 #[.slice A n c, .slice B m d] w (YesB w) := by
  have N := Lib.hid hn
  have M := Lib.hid hm
  clear hn hm
  by_cases g1 : 1000 < n
  · have g1z : (1000 : Int) < (n : Int) := by omega
    go_enter Tryd.func5, Tryd.ntmps5
    go_wp2_with (go_at_call 7; refine Hid.out ?_)
    refine Lib.hid ?_
    refine (known_any w hT).mono ?_
    rintro e w1 ⟨rfl, y⟩
    go_wp2_with (fail)
    go_ret
    exact ⟨rfl, y⟩
  · by_cases g2 : 1000 < m
    · have g1z : ¬ ((1000 : Int) < (n : Int)) := by omega
      have g2z : (1000 : Int) < (m : Int) := by omega
      go_enter Tryd.func5, Tryd.ntmps5
      go_wp2_with (go_at_call 7; refine Hid.out ?_)
      refine Lib.hid ?_
      refine (known_any w hT).mono ?_
      rintro e w1 ⟨rfl, y⟩
      go_wp2_with (fail)
      go_ret
      exact ⟨rfl, y⟩
    · have g1z : ¬ ((1000 : Int) < (n : Int)) := by omega
      have g2z : ¬ ((1000 : Int) < (m : Int)) := by omega
      go_enter Tryd.func5, Tryd.ntmps5
      go_wp2_with (go_at_call 8; refine Hid.out ?_)
      refine Lib.hid ?_
      refine (bytes_any A n c a w N.out h1 (by omega)).mono ?_
      intro e w3 h
      obtain ⟨A3, n3, c3, rfl, h3, hc3, r3, y3⟩ := bytes_out h
      obtain ⟨EA, hEA⟩ : ∃ X, outE a = X := ⟨_, rfl⟩
      rw [hEA]
      have HEA := Lib.hid hEA
      have H3 := Lib.hid h3
      clear h h3 hEA
      go_wp2_with (go_at_call 8; refine Hid.out ?_)
      refine Lib.hid ?_
      refine (bytes_any B m d b w3 M.out (h2.ext y3) (by omega)).mono ?_
      intro e w4 h
      obtain ⟨A4, n4, c4, rfl, h4, hc4, r4, y4⟩ := bytes_out h
      obtain ⟨EB, hEB⟩ : ∃ X, outE b = X := ⟨_, rfl⟩
      rw [hEB]
      have HEB := Lib.hid hEB
      have H4 := Lib.hid h4
      have x4 := ext_trans y3 y4
      have r34 := r3.ext y4
      clear h h4 hEB y3 y4 r3
      go_wp2_with (first
        | (at_builtin; refine app_i32 (m := a) rfl (.tmp 36) (.tmp 37) rfl rfl (Ow.empty _ w4.heap.size _) _ _ _ _ rfl N.out ((h1.ext x4).alloc (Nat.le_refl _) _) (by have := N.out; simp only [List.length_nil]; omega) (by rw [World.size_alloc]; omega) ?_; intro v5 w5 hown5 hgr5 hv5; have x5 : Below w4.heap.size w4 w5 := (ext_alloc w4 _).grown hgr5 (by rw [World.size_alloc]; omega) (fun k hk => by cases hk); clear hgr5 hv5)
        | (at_builtin; refine app_i32 (m := b) rfl (.tmp 38) (.tmp 39) rfl rfl hown5 _ _ _ _ rfl M.out ((h2.ext (ext_trans x4 x5))) (by have := N.out; have := M.out; simp only [List.nil_append]; omega) x5.size ?_; intro v6 w6 hown6 hgr6 hv6; have x6 : Below w4.heap.size w4 w6 := x5.grown hgr6 x5.size (fun k hk => (hown5.wb_lt k hk).1); clear hgr6 hv6)
        | (go_at_call 8; refine Hid.out ?_))
      obtain ⟨A5, c5, rfl, hc5, hown6⟩ := ow_sl hown6 (l := a ++ b) (by rw [List.nil_append]) (n := n + m) (by rw [List.length_append, N.out, M.out])
      have r5 := hown6.rd encI32_len
      have r36 := r34.ext x6
      have r46 := r4.ext x6
      have x6 := ext_trans x4 x6
      clear hown5 hown6 x4 x5 r34 r4
      refine Lib.hid ?_
      refine (bytes_any A5 (n + m) c5 (a ++ b) w6 (by rw [List.length_append, N.out, M.out]) r5 (by omega)).mono ?_
      intro e w7 h
      obtain ⟨A7, n7, c7, rfl, h7, hc7, r7, y7⟩ := bytes_out h
      obtain ⟨EG, hEG⟩ : ∃ X, outE (a ++ b) = X := ⟨_, rfl⟩
      rw [hEG]
      have HEG := Lib.hid hEG
      have H7 := Lib.hid h7
      have x7 := ext_trans x6 y7
      have r57 := r5.ext y7
      have r37 := r36.ext y7
      have r47 := r46.ext y7
      have NB := Lib.hid (nlR_append a b)
      have hna := nlR_len a
      have hnb := nlR_len b
      have hna2 : nlR a ≤ 1000 := by have := N.out; omega
      have hnb2 : nlR b ≤ 1000 := by have := M.out; omega
      clear h h7 hEG x6 y7 r5 r36 r46 hna hnb
      by_cases oka : okR a = true
      · have hE : EA = 0 := by rw [← HEA.out]; exact if_pos oka
        subst hE
        by_cases okb : okR b = true
        · have hE : EB = 0 := by rw [← HEB.out]; exact if_pos okb
          subst hE
          have hE : EG = 0 := by rw [← HEG.out]; exact if_pos (by rw [okR_append]; simp [oka, okb])
          subst hE
          have hca : (convert 23 9 (.slice A3 n3 c3)).run Tryd.prog w7 = .ok (.string (strB (outB a))) w7 := conv_rd H3.out r37 (outB_mem a)
          have hcb : (convert 23 9 (.slice A4 n4 c4)).run Tryd.prog w7 = .ok (.string (strB (outB b))) w7 := conv_rd H4.out r47 (outB_mem b)
          have hcg : (convert 23 9 (.slice A7 n7 c7)).run Tryd.prog w7 = .ok (.string (strB (outB a ++ outB b))) w7 := by
            have e : outB (a ++ b) = outB a ++ outB b := by rw [outB, outB, outB, if_pos oka, if_pos okb, if_pos (by rw [okR_append]; simp [oka, okb]), bytesR_append]
            rw [← e]
            exact conv_rd H7.out r7 (outB_mem _)
          have hadd : ∀ W, (Op.stringOp .add (strB (outB a)) (strB (outB b))).run Tryd.prog W = .ok (.string (strB (outB a ++ outB b))) W := fun W => by
            rw [run_string_add_sum W _ _ (by
              have := outB_len a
              have := outB_len b
              have := N.out
              have := M.out
              rw [strB_size, strB_size]
              omega), strB_add]
          generalize strB (outB a) = SA at hca hadd
          generalize strB (outB b) = SB at hcb hadd
          generalize strB (outB a ++ outB b) = SG at hcg hadd
          clear okb
          go_wp2_with (go_at_call 15; refine Hid.out ?_)
          refine Lib.hid ?_
          refine (newlines_any A5 (n + m) c5 (a ++ b) w7 (by rw [List.length_append, N.out, M.out]) r57 (by omega)).mono ?_
          rw [NB.out]
          rintro e wn ⟨rfl, rfl⟩
          go_wp2_with (go_at_call 15; refine Hid.out ?_)
          refine Lib.hid ?_
          refine (newlines_any A n c a w7 N.out (h1.ext x7) (by omega)).mono ?_
          rintro e wn ⟨rfl, rfl⟩
          go_wp2_with (go_at_call 15; refine Hid.out ?_)
          refine Lib.hid ?_
          refine (newlines_any B m d b w7 M.out (h2.ext x7) (by omega)).mono ?_
          rintro e wn ⟨rfl, rfl⟩
          by_cases hpos : 0 < n
          · have hpz : (0 : Int) < (n : Int) := by omega
            obtain ⟨a', r, ha, hd⟩ := last_cut (a := a) (by have := N.out; omega)
            rw [← N.out] at hd
            have hor : okR a' = true ∧ mayR r = true := by rw [ha, okR_append] at oka; simpa [okR] using oka
            obtain ⟨A8, hA8⟩ : ∃ X, advS A c (n - 1) 1 = X := ⟨_, rfl⟩
            obtain ⟨c8, hc8⟩ : ∃ X, c - (n - 1) = X := ⟨_, rfl⟩
            have sl : ∀ W, (Instr.slice 22 (.slice A n c) (some (.int .i64 ((n : Int) - 1))) none none).run Tryd.prog W = .ok (.slice A8 1 c8) W := sl_from Tryd.slI32 Tryd.elI32 size_i32 (by omega) hA8 (by omega) hc8 (by omega) hnc
            have r8 : RdI32 w7 w7.heap.size A8 [r] := by
              have := (h1.advS (k := n - 1) (c := c) (by have := N.out; omega) (by have := N.out; omega)).ext x7
              rw [hA8, hd] at this; exact this
            have hbl : outB a = bytesR a' ++ encR r := by rw [outB, if_pos oka, ha, bytesR_append]; simp [bytesR]
            have hx1 := (encR_len r).1
            have hx2 := (encR_len r).2
            obtain ⟨q, hq⟩ : ∃ X, (encR r).length = X := ⟨_, rfl⟩
            have hn3 : q ≤ n3 := by rw [H3.out, hbl, List.length_append]; omega
            rw [hq] at hx1 hx2
            have HBL := Lib.hid hbl
            have HQ := Lib.hid hq
            have HOR := Lib.hid hor
            have OB : Hid (outB [r] = encR r) := Lib.hid (by rw [outB, if_pos (by simp [okR, hor.2])]; simp [bytesR])
            have OE : Hid (outE [r] = 0) := Lib.hid (by rw [outE, if_pos (by simp [okR, hor.2])])
            clear ha hd hor hA8 hc8 hbl hq oka
            go_wp2_with (go_at_call 8; refine Hid.out ?_)
            refine Lib.hid ?_
            refine (bytes_any A8 1 c8 [r] w7 rfl r8 (by omega)).mono ?_
            intro e w9 h
            obtain ⟨A9, n9, c9, rfl, h9, hc9, r9, y9⟩ := bytes_out h
            rw [OE.out]
            rw [OB.out, HQ.out] at h9
            subst h9
            have x9 := ext_trans x7 y9
            have rx := r37.ext y9
            clear h sl r8 r9 y9 OE
            have hq1z : decide ((n9 : Int) < 1) = false := decide_eq_false (by omega)
            have hq2z : decide (n3 < n9) = false := decide_eq_false (by omega)
            go_wp2_with (fail)
            go_loopg [14] (n9 - 1) (fun g kv wr => ∃ (k : Nat) (w1 : World), 1 ≤ k ∧ k ≤ n9 ∧ g = n9 - k ∧ kv = .int .i64 (k : Int) ∧ w1 = wr ∧ Below w9.heap.size w9 w1)
            case atStart => exact ⟨1, w9, Nat.le_refl _, hx1, rfl, rfl, rfl, Below.refl _ _⟩
            case round =>
              obtain ⟨k, w1, hk1, hk2, hg, rfl, rfl, xk0⟩ := hrel
              have xk := ext_trans x9 xk0
              have rxk := rx.ext xk0
              have HG := Lib.hid hg
              clear hg
              by_cases hlt : k < n9
              · have sl2 : ∀ W, (Instr.slice 23 (.slice A3 n3 c3) none (some (.int .i64 ((n3 : Int) - (k : Int)))) none).run Tryd.prog W = .ok (.slice A3 (n3 - k) c3) W := sl_to (l := n3 - k) Tryd.slU8 Tryd.elU8 size_u8 (by omega) (by omega)
                obtain ⟨z, hz⟩ : ∃ X, n3 - k = X := ⟨_, rfl⟩
                have hz2 : z ≤ n3 := by omega
                have hl3 : n3 ≤ 4000 := by rw [H3.out]; have := outB_len a; have := N.out; omega
                have hcut : (outB a).take z = bytesR a' ++ (encR r).take (n9 - k) := by
                  have e1 := H3.out
                  rw [HBL.out, List.length_append, HQ.out] at e1
                  rw [HBL.out, show z = (bytesR a').length + (n9 - k) by omega, List.take_length_add_append]
                have hnone : readR ((outB a).take z) = none := by rw [hcut]; exact read_short HOR.out.1 HOR.out.2 (by omega) (by rw [HQ.out]; omega)
                have rz : RdU8 w1 w1.heap.size A3 ((outB a).take z) := Rd.take (rxk) z
                have hlz : z = ((outB a).take z).length := by rw [List.length_take, ← H3.out]; omega
                have hmz : ∀ x ∈ (outB a).take z, 0 ≤ x ∧ x ≤ 255 := fun x hx => outB_mem a x (List.mem_of_mem_take hx)
                rw [hz] at sl2
                have HNO := Lib.hid hnone
                have HLZ := Lib.hid hlz
                have HMZ := Lib.hid hmz
                clear hz hcut hnone hlz hmz
                go_wp2_with (go_at_call 10; refine Hid.out ?_)
                refine Lib.hid ?_
                refine (read_any A3 z c3 ((outB a).take z) w1 HLZ.out (by omega) rz (by omega) HMZ.out (Utf8Tabs_below hT xk)).mono ?_
                rw [HNO.out]
                intro e w5 h
                obtain ⟨A5', n5, c5', rfl, h5, hc5', r5', y5⟩ := read_out h
                have hE : outR none = 3 := rfl
                rw [hE]
                clear h h5 r5' hE sl2
                go_wp2_with (fail)
                go_roundg (n9 - (k + 1))
                case measure => have := HG.out; omega
                case rel => exact ⟨k + 1, w5, by omega, by omega, rfl, by go_num, rfl, ext_trans xk0 y5⟩
              · have hge : ¬ ((k : Int) < (n9 : Int)) := by omega
                go_wp2_with (go_at_call 7; refine Hid.out ?_)
                refine Lib.hid ?_
                refine (known_any w1 (Utf8Tabs_below hT xk)).mono ?_
                rintro e wz ⟨rfl, yz⟩
                go_wp2_with (fail)
                go_ret
                exact ⟨rfl, ext_trans xk yz⟩
          · have hpz : ¬ ((0 : Int) < (n : Int)) := by omega
            go_wp2_with (go_at_call 7; refine Hid.out ?_)
            refine Lib.hid ?_
            refine (known_any w7 (Utf8Tabs_below hT x7)).mono ?_
            rintro e wz ⟨rfl, yz⟩
            go_wp2_with (fail)
            go_ret
            exact ⟨rfl, ext_trans x7 yz⟩
        · have hE : EB = 3 := by rw [← HEB.out]; exact if_neg okb
          subst hE
          have hE : EG = 3 := by rw [← HEG.out]; exact if_neg (by rw [okR_append]; simp [oka, okb])
          subst hE
          clear okb
          go_wp2_with (go_at_call 15; refine Hid.out ?_)
          refine Lib.hid ?_
          refine (newlines_any A5 (n + m) c5 (a ++ b) w7 (by rw [List.length_append, N.out, M.out]) r57 (by omega)).mono ?_
          rw [NB.out]
          rintro e wn ⟨rfl, rfl⟩
          go_wp2_with (go_at_call 15; refine Hid.out ?_)
          refine Lib.hid ?_
          refine (newlines_any A n c a w7 N.out (h1.ext x7) (by omega)).mono ?_
          rintro e wn ⟨rfl, rfl⟩
          go_wp2_with (go_at_call 15; refine Hid.out ?_)
          refine Lib.hid ?_
          refine (newlines_any B m d b w7 M.out (h2.ext x7) (by omega)).mono ?_
          rintro e wn ⟨rfl, rfl⟩
          by_cases hpos : 0 < n
          · have hpz : (0 : Int) < (n : Int) := by omega
            obtain ⟨a', r, ha, hd⟩ := last_cut (a := a) (by have := N.out; omega)
            rw [← N.out] at hd
            have hor : okR a' = true ∧ mayR r = true := by rw [ha, okR_append] at oka; simpa [okR] using oka
            obtain ⟨A8, hA8⟩ : ∃ X, advS A c (n - 1) 1 = X := ⟨_, rfl⟩
            obtain ⟨c8, hc8⟩ : ∃ X, c - (n - 1) = X := ⟨_, rfl⟩
            have sl : ∀ W, (Instr.slice 22 (.slice A n c) (some (.int .i64 ((n : Int) - 1))) none none).run Tryd.prog W = .ok (.slice A8 1 c8) W := sl_from Tryd.slI32 Tryd.elI32 size_i32 (by omega) hA8 (by omega) hc8 (by omega) hnc
            have r8 : RdI32 w7 w7.heap.size A8 [r] := by
              have := (h1.advS (k := n - 1) (c := c) (by have := N.out; omega) (by have := N.out; omega)).ext x7
              rw [hA8, hd] at this; exact this
            have hbl : outB a = bytesR a' ++ encR r := by rw [outB, if_pos oka, ha, bytesR_append]; simp [bytesR]
            have hx1 := (encR_len r).1
            have hx2 := (encR_len r).2
            obtain ⟨q, hq⟩ : ∃ X, (encR r).length = X := ⟨_, rfl⟩
            have hn3 : q ≤ n3 := by rw [H3.out, hbl, List.length_append]; omega
            rw [hq] at hx1 hx2
            have HBL := Lib.hid hbl
            have HQ := Lib.hid hq
            have HOR := Lib.hid hor
            have OB : Hid (outB [r] = encR r) := Lib.hid (by rw [outB, if_pos (by simp [okR, hor.2])]; simp [bytesR])
            have OE : Hid (outE [r] = 0) := Lib.hid (by rw [outE, if_pos (by simp [okR, hor.2])])
            clear ha hd hor hA8 hc8 hbl hq oka
            go_wp2_with (go_at_call 8; refine Hid.out ?_)
            refine Lib.hid ?_
            refine (bytes_any A8 1 c8 [r] w7 rfl r8 (by omega)).mono ?_
            intro e w9 h
            obtain ⟨A9, n9, c9, rfl, h9, hc9, r9, y9⟩ := bytes_out h
            rw [OE.out]
            rw [OB.out, HQ.out] at h9
            subst h9
            have x9 := ext_trans x7 y9
            have rx := r37.ext y9
            clear h sl r8 r9 y9 OE
            have hq1z : decide ((n9 : Int) < 1) = false := decide_eq_false (by omega)
            have hq2z : decide (n3 < n9) = false := decide_eq_false (by omega)
            go_wp2_with (fail)
            go_loopg [14] (n9 - 1) (fun g kv wr => ∃ (k : Nat) (w1 : World), 1 ≤ k ∧ k ≤ n9 ∧ g = n9 - k ∧ kv = .int .i64 (k : Int) ∧ w1 = wr ∧ Below w9.heap.size w9 w1)
            case atStart => exact ⟨1, w9, Nat.le_refl _, hx1, rfl, rfl, rfl, Below.refl _ _⟩
            case round =>
              obtain ⟨k, w1, hk1, hk2, hg, rfl, rfl, xk0⟩ := hrel
              have xk := ext_trans x9 xk0
              have rxk := rx.ext xk0
              have HG := Lib.hid hg
              clear hg
              by_cases hlt : k < n9
              · have sl2 : ∀ W, (Instr.slice 23 (.slice A3 n3 c3) none (some (.int .i64 ((n3 : Int) - (k : Int)))) none).run Tryd.prog W = .ok (.slice A3 (n3 - k) c3) W := sl_to (l := n3 - k) Tryd.slU8 Tryd.elU8 size_u8 (by omega) (by omega)
                obtain ⟨z, hz⟩ : ∃ X, n3 - k = X := ⟨_, rfl⟩
                have hz2 : z ≤ n3 := by omega
                have hl3 : n3 ≤ 4000 := by rw [H3.out]; have := outB_len a; have := N.out; omega
                have hcut : (outB a).take z = bytesR a' ++ (encR r).take (n9 - k) := by
                  have e1 := H3.out
                  rw [HBL.out, List.length_append, HQ.out] at e1
                  rw [HBL.out, show z = (bytesR a').length + (n9 - k) by omega, List.take_length_add_append]
                have hnone : readR ((outB a).take z) = none := by rw [hcut]; exact read_short HOR.out.1 HOR.out.2 (by omega) (by rw [HQ.out]; omega)
                have rz : RdU8 w1 w1.heap.size A3 ((outB a).take z) := Rd.take (rxk) z
                have hlz : z = ((outB a).take z).length := by rw [List.length_take, ← H3.out]; omega
                have hmz : ∀ x ∈ (outB a).take z, 0 ≤ x ∧ x ≤ 255 := fun x hx => outB_mem a x (List.mem_of_mem_take hx)
                rw [hz] at sl2
                have HNO := Lib.hid hnone
                have HLZ := Lib.hid hlz
                have HMZ := Lib.hid hmz
                clear hz hcut hnone hlz hmz
                go_wp2_with (go_at_call 10; refine Hid.out ?_)
                refine Lib.hid ?_
                refine (read_any A3 z c3 ((outB a).take z) w1 HLZ.out (by omega) rz (by omega) HMZ.out (Utf8Tabs_below hT xk)).mono ?_
                rw [HNO.out]
                intro e w5 h
                obtain ⟨A5', n5, c5', rfl, h5, hc5', r5', y5⟩ := read_out h
                have hE : outR none = 3 := rfl
                rw [hE]
                clear h h5 r5' hE sl2
                go_wp2_with (fail)
                go_roundg (n9 - (k + 1))
                case measure => have := HG.out; omega
                case rel => exact ⟨k + 1, w5, by omega, by omega, rfl, by go_num, rfl, ext_trans xk0 y5⟩
              · have hge : ¬ ((k : Int) < (n9 : Int)) := by omega
                go_wp2_with (go_at_call 7; refine Hid.out ?_)
                refine Lib.hid ?_
                refine (known_any w1 (Utf8Tabs_below hT xk)).mono ?_
                rintro e wz ⟨rfl, yz⟩
                go_wp2_with (fail)
                go_ret
                exact ⟨rfl, ext_trans xk yz⟩
          · have hpz : ¬ ((0 : Int) < (n : Int)) := by omega
            go_wp2_with (go_at_call 7; refine Hid.out ?_)
            refine Lib.hid ?_
            refine (known_any w7 (Utf8Tabs_below hT x7)).mono ?_
            rintro e wz ⟨rfl, yz⟩
            go_wp2_with (fail)
            go_ret
            exact ⟨rfl, ext_trans x7 yz⟩

      · have hE : EA = 3 := by rw [← HEA.out]; exact if_neg oka
        subst hE
        by_cases okb : okR b = true
        · have hE : EB = 0 := by rw [← HEB.out]; exact if_pos okb
          subst hE
          have hE : EG = 3 := by rw [← HEG.out]; exact if_neg (by rw [okR_append]; simp [oka, okb])
          subst hE
          clear okb
          go_wp2_with (go_at_call 15; refine Hid.out ?_)
          refine Lib.hid ?_
          refine (newlines_any A5 (n + m) c5 (a ++ b) w7 (by rw [List.length_append, N.out, M.out]) r57 (by omega)).mono ?_
          rw [NB.out]
          rintro e wn ⟨rfl, rfl⟩
          go_wp2_with (go_at_call 15; refine Hid.out ?_)
          refine Lib.hid ?_
          refine (newlines_any A n c a w7 N.out (h1.ext x7) (by omega)).mono ?_
          rintro e wn ⟨rfl, rfl⟩
          go_wp2_with (go_at_call 15; refine Hid.out ?_)
          refine Lib.hid ?_
          refine (newlines_any B m d b w7 M.out (h2.ext x7) (by omega)).mono ?_
          rintro e wn ⟨rfl, rfl⟩
          go_wp2_with (go_at_call 7; refine Hid.out ?_)
          refine Lib.hid ?_
          refine (known_any w7 (Utf8Tabs_below hT x7)).mono ?_
          rintro e wz ⟨rfl, yz⟩
          go_wp2_with (fail)
          go_ret
          exact ⟨rfl, ext_trans x7 yz⟩
        · have hE : EB = 3 := by rw [← HEB.out]; exact if_neg okb
          subst hE
          have hE : EG = 3 := by rw [← HEG.out]; exact if_neg (by rw [okR_append]; simp [oka, okb])
          subst hE
          clear okb
          go_wp2_with (go_at_call 15; refine Hid.out ?_)
          refine Lib.hid ?_
          refine (newlines_any A5 (n + m) c5 (a ++ b) w7 (by rw [List.length_append, N.out, M.out]) r57 (by omega)).mono ?_
          rw [NB.out]
          rintro e wn ⟨rfl, rfl⟩
          go_wp2_with (go_at_call 15; refine Hid.out ?_)
          refine Lib.hid ?_
          refine (newlines_any A n c a w7 N.out (h1.ext x7) (by omega)).mono ?_
          rintro e wn ⟨rfl, rfl⟩
          go_wp2_with (go_at_call 15; refine Hid.out ?_)
          refine Lib.hid ?_
          refine (newlines_any B m d b w7 M.out (h2.ext x7) (by omega)).mono ?_
          rintro e wn ⟨rfl, rfl⟩
          go_wp2_with (go_at_call 7; refine Hid.out ?_)
          refine Lib.hid ?_
          refine (known_any w7 (Utf8Tabs_below hT x7)).mono ?_
          rintro e wz ⟨rfl, yz⟩
          go_wp2_with (fail)
          go_ret
          exact ⟨rfl, ext_trans x7 yz⟩
end Go.Proofs.YteaglmdlghdohaaDoor
