/- The walks of utf8.AppendRune. -/
import Derived.Test.YteaglmdlghdohaaDoorRuBytes
namespace Go.Proofs.YteaglmdlghdohaaDoor
open Go.RowKit
set_option linter.unusedVariables false
set_option linter.unusedSimpArgs false

set_option maxHeartbeats 800000 in
theorem nonAscii_any (v : Value) (b : List Int) (base : Nat) (r : Int) (w : World) (hown : OwU8 w base v b) (hbase : base ≤ w.heap.size) (hb : b.length ≤ 400000000) (h0 : 128 ≤ r) (hm : mayR r = true) :
    Calls Tryd.prog 22 #[v, .int .i32 r] w fun e w' => ∃ v', e = .returned v' ∧ OwU8 w' base v' (b ++ encR r) ∧ Below base w w' := by
  have hi := (mayR_le hm).2
  have hmm := of_decide_eq_true hm
  clear hm
  have hn : ¬ r < 128 := by omega
  by_cases h2 : r ≤ 2047
  · have he : encR r = [192 + r / 64, 128 + r % 64] := by rw [encR, if_neg hn, if_pos (by omega)]
    rw [he]
    go_enter Tryd.func22, Tryd.ntmps22
    go_wp2_with (at_builtin; refine app_u8 (m := [192 + r / 64, 128 + r % 64]) rfl (.tmp 14) (.tmp 23) rfl rfl (hown.alloc _) _ _ _ _ rfl rfl (Rd.new (enc := encU8) (size := 1) (fun _ => rfl) w 5 [192 + r / 64, 128 + r % 64] (cs := #[.int .u8 (192 + r / 64), .int .u8 (128 + r % 64)]) rfl rfl) (by simp only [List.length_cons, List.length_nil]; omega) (by rw [World.size_alloc]; omega) ?_; intro v' w' hown' hgr hv')
    have hx : Below base w w' := ((Below.refl _ _).alloc hbase _).grown hgr (by rw [World.size_alloc]; omega) (fun k hk => (hown.wb_lt k hk).1)
    go_ret
    exact ⟨v', rfl, hown', hx⟩
  · by_cases h3 : r < 55296
    · have he : encR r = [224 + r / 4096, 128 + r / 64 % 64, 128 + r % 64] := by rw [encR, if_neg hn, if_neg (by omega), if_pos (by omega)]
      rw [he]
      go_enter Tryd.func22, Tryd.ntmps22
      go_wp2_with (at_builtin; refine app_u8 (m := [224 + r / 4096, 128 + r / 64 % 64, 128 + r % 64]) rfl (.tmp 34) (.tmp 48) rfl rfl (hown.alloc _) _ _ _ _ rfl rfl (Rd.new (enc := encU8) (size := 1) (fun _ => rfl) w 5 [224 + r / 4096, 128 + r / 64 % 64, 128 + r % 64] (cs := #[.int .u8 (224 + r / 4096), .int .u8 (128 + r / 64 % 64), .int .u8 (128 + r % 64)]) rfl rfl) (by simp only [List.length_cons, List.length_nil]; omega) (by rw [World.size_alloc]; omega) ?_; intro v' w' hown' hgr hv')
      have hx : Below base w w' := ((Below.refl _ _).alloc hbase _).grown hgr (by rw [World.size_alloc]; omega) (fun k hk => (hown.wb_lt k hk).1)
      go_ret
      exact ⟨v', rfl, hown', hx⟩
    · have h4 : 57343 < r := by omega
      by_cases h5 : r ≤ 65535
      · have he : encR r = [224 + r / 4096, 128 + r / 64 % 64, 128 + r % 64] := by rw [encR, if_neg hn, if_neg (by omega), if_pos (by omega)]
        rw [he]
        go_enter Tryd.func22, Tryd.ntmps22
        go_wp2_with (at_builtin; refine app_u8 (m := [224 + r / 4096, 128 + r / 64 % 64, 128 + r % 64]) rfl (.tmp 34) (.tmp 48) rfl rfl (hown.alloc _) _ _ _ _ rfl rfl (Rd.new (enc := encU8) (size := 1) (fun _ => rfl) w 5 [224 + r / 4096, 128 + r / 64 % 64, 128 + r % 64] (cs := #[.int .u8 (224 + r / 4096), .int .u8 (128 + r / 64 % 64), .int .u8 (128 + r % 64)]) rfl rfl) (by simp only [List.length_cons, List.length_nil]; omega) (by rw [World.size_alloc]; omega) ?_; intro v' w' hown' hgr hv')
        have hx : Below base w w' := ((Below.refl _ _).alloc hbase _).grown hgr (by rw [World.size_alloc]; omega) (fun k hk => (hown.wb_lt k hk).1)
        go_ret
        exact ⟨v', rfl, hown', hx⟩
      · have he : encR r = [240 + r / 262144, 128 + r / 4096 % 64, 128 + r / 64 % 64, 128 + r % 64] := by rw [encR, if_neg hn, if_neg (by omega), if_neg (by omega)]
        have h6 : 65535 < r := by omega
        rw [he]
        go_enter Tryd.func22, Tryd.ntmps22
        go_wp2_with (at_builtin; refine app_u8 (m := [240 + r / 262144, 128 + r / 4096 % 64, 128 + r / 64 % 64, 128 + r % 64]) rfl (.tmp 57) (.tmp 76) rfl rfl (hown.alloc _) _ _ _ _ rfl rfl (Rd.new (enc := encU8) (size := 1) (fun _ => rfl) w 5 [240 + r / 262144, 128 + r / 4096 % 64, 128 + r / 64 % 64, 128 + r % 64] (cs := #[.int .u8 (240 + r / 262144), .int .u8 (128 + r / 4096 % 64), .int .u8 (128 + r / 64 % 64), .int .u8 (128 + r % 64)]) rfl rfl) (by simp only [List.length_cons, List.length_nil]; omega) (by rw [World.size_alloc]; omega) ?_; intro v' w' hown' hgr hv')
        have hx : Below base w w' := ((Below.refl _ _).alloc hbase _).grown hgr (by rw [World.size_alloc]; omega) (fun k hk => (hown.wb_lt k hk).1)
        go_ret
        exact ⟨v', rfl, hown', hx⟩

set_option maxHeartbeats 800000 in
theorem appendRune_any (v : Value) (b : List Int) (base : Nat) (r : Int) (w : World) (hown : OwU8 w base v b) (hbase : base ≤ w.heap.size) (hb : b.length ≤ 400000000) (hm : mayR r = true) :
    Calls Tryd.prog 17 #[v, .int .i32 r] w fun e w' => ∃ v', e = .returned v' ∧ OwU8 w' base v' (b ++ encR r) ∧ Below base w w' := by
  have hi := (mayR_le hm).2
  have hlo := (mayR_le hm).1
  by_cases h2 : r ≤ 127
  · have he : encR r = [r] := by rw [encR, if_pos (by omega)]
    clear hm
    rw [he]
    go_enter Tryd.func17, Tryd.ntmps17
    go_wp2_with (at_builtin; refine app_u8 (m := [r]) rfl (.tmp 8) (.tmp 11) rfl rfl (hown.alloc _) _ _ _ _ rfl rfl (Rd.new (enc := encU8) (size := 1) (fun _ => rfl) w 5 [r] (cs := #[.int .u8 r]) rfl rfl) (by simp only [List.length_cons, List.length_nil]; omega) (by rw [World.size_alloc]; omega) ?_; intro v' w' hown' hgr hv')
    have hx : Below base w w' := ((Below.refl _ _).alloc hbase _).grown hgr (by rw [World.size_alloc]; omega) (fun k hk => (hown.wb_lt k hk).1)
    go_ret
    exact ⟨v', rfl, hown', hx⟩
  · have HM := Lib.hid hm
    clear hm
    go_enter Tryd.func17, Tryd.ntmps17
    go_wp2_with (go_at_call 22; refine Hid.out ?_)
    refine Lib.hid ?_
    refine (nonAscii_any v b base r w hown hbase hb (by omega) HM.out).mono ?_
    rintro e w1 ⟨v', rfl, ho, hx⟩
    go_wp2_with (fail)
    go_ret
    exact ⟨v', rfl, ho, hx⟩
end Go.Proofs.YteaglmdlghdohaaDoor
