/- The walks of the document's answers of layer 1: rubricref01.May, six. -/
import Derived.Test.YtclfplpggmefjaaDoorRuMay
namespace Go.Proofs.YtclfplpggmefjaaDoor
open Go.RowKit
set_option linter.unusedVariables false
set_option linter.unusedSimpArgs false

theorem refMay_any (r : Int) (w : World) : Calls Tryd.prog 81 #[.int .i32 r] w fun e w' => e = .returned (.bool (mayR r)) ∧ w = w' := by
  by_cases h1 : 0 ≤ r
  · by_cases h2 : r < 55296
    · have h3 : mayR r = true := decide_eq_true (.inl ⟨h1, h2⟩)
      rw [h3]
      go_enter Tryd.func81, Tryd.ntmps81
      go_wp2_with (fail)
      go_ret
      exact ⟨rfl, rfl⟩
    · by_cases h4 : 57344 ≤ r
      · by_cases h5 : r ≤ 1114111
        · have h3 : mayR r = true := decide_eq_true (.inr ⟨h4, h5⟩)
          rw [h3]
          go_enter Tryd.func81, Tryd.ntmps81
          go_wp2_with (fail)
          go_ret
          exact ⟨rfl, rfl⟩
        · have h3 : mayR r = false := decide_eq_false (by omega)
          rw [h3]
          go_enter Tryd.func81, Tryd.ntmps81
          go_wp2_with (fail)
          go_ret
          exact ⟨rfl, rfl⟩
      · have h3 : mayR r = false := decide_eq_false (by omega)
        rw [h3]
        go_enter Tryd.func81, Tryd.ntmps81
        go_wp2_with (fail)
        go_ret
        exact ⟨rfl, rfl⟩
  · have h3 : mayR r = false := decide_eq_false (by omega)
    rw [h3]
    have h4 : ¬ 57344 ≤ r := by omega
    go_enter Tryd.func81, Tryd.ntmps81
    go_wp2_with (fail)
    go_ret
    exact ⟨rfl, rfl⟩
theorem six_any (r : Int) (w : World) (h0 : 0 ≤ r) (h1 : r ≤ 2147483647) : Calls Tryd.prog 95 #[.int .i32 r] w fun e w' => e = .returned (.int .u8 (128 + r % 64)) ∧ w = w' := by
  go_enter Tryd.func95, Tryd.ntmps95
  go_wp2_with (fail)
  go_ret
  exact ⟨rfl, rfl⟩
def encU8 (x : Int) : List Value := [.int .u8 x]
def encI32 (x : Int) : List Value := [.int .i32 x]
/-- a rune's bytes -/
def encR (r : Int) : List Int :=
  if r < 128 then [r] else if r < 2048 then [192 + r / 64, 128 + r % 64] else if r < 65536 then [224 + r / 4096, 128 + r / 64 % 64, 128 + r % 64]
  else [240 + r / 262144, 128 + r / 4096 % 64, 128 + r / 64 % 64, 128 + r % 64]

theorem one_any (r : Int) (w : World) (h0 : 0 ≤ r) (h1 : r ≤ 1114111) : Calls Tryd.prog 82 #[.int .i32 r] w fun e w' =>
    ∃ A c, e = .returned (.slice A (encR r).length c) ∧ Rd encU8 1 w' w'.heap.size A (encR r) ∧ Below w.heap.size w w' := by
  by_cases h2 : r < 128
  · have e : encR r = [r] := by simp [encR, h2]
    rw [e]
    go_enter Tryd.func82, Tryd.ntmps82
    go_wp2_with (fail)
    go_ret
    exact ⟨_, _, rfl, Rd.new (enc := encU8) (size := 1) (fun _ => rfl) w 5 _ (cs := #[.int .u8 (r)]) rfl rfl, ext_alloc w _⟩
  · by_cases h3 : r < 2048
    · have e : encR r = [192 + r / 64, 128 + r % 64] := by simp [encR, h2, h3]
      rw [e]
      go_enter Tryd.func82, Tryd.ntmps82
      go_wp2_with (go_at_call 95; refine (six_any _ w (by omega) (by omega)).mono ?_; rintro e w' ⟨rfl, rfl⟩)
      go_ret
      exact ⟨_, _, rfl, Rd.new (enc := encU8) (size := 1) (fun _ => rfl) w 5 _ (cs := #[.int .u8 (192 + r / 64), .int .u8 (128 + r % 64)]) rfl rfl, ext_alloc w _⟩
    · by_cases h4 : r < 65536
      · have e : encR r = [224 + r / 4096, 128 + r / 64 % 64, 128 + r % 64] := by simp [encR, h2, h3, h4]
        rw [e]
        go_enter Tryd.func82, Tryd.ntmps82
        go_wp2_with (go_at_call 95; refine (six_any _ w (by omega) (by omega)).mono ?_; rintro e w' ⟨rfl, rfl⟩)
        go_ret
        exact ⟨_, _, rfl, Rd.new (enc := encU8) (size := 1) (fun _ => rfl) w 5 _ (cs := #[.int .u8 (224 + r / 4096), .int .u8 (128 + r / 64 % 64), .int .u8 (128 + r % 64)]) rfl rfl, ext_alloc w _⟩
      · have e : encR r = [240 + r / 262144, 128 + r / 4096 % 64, 128 + r / 64 % 64, 128 + r % 64] := by simp [encR, h2, h3, h4]
        rw [e]
        go_enter Tryd.func82, Tryd.ntmps82
        go_wp2_with (go_at_call 95; refine (six_any _ w (by omega) (by omega)).mono ?_; rintro e w' ⟨rfl, rfl⟩)
        go_ret
        exact ⟨_, _, rfl, Rd.new (enc := encU8) (size := 1) (fun _ => rfl) w 5 _ (cs := #[.int .u8 (240 + r / 262144), .int .u8 (128 + r / 4096 % 64), .int .u8 (128 + r / 64 % 64), .int .u8 (128 + r % 64)]) rfl rfl, ext_alloc w _⟩
end Go.Proofs.YtclfplpggmefjaaDoor
