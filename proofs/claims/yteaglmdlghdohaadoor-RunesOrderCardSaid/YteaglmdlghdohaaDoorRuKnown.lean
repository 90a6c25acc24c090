/- The walk of rubriclaw01.known. -/
import Derived.Test.YteaglmdlghdohaaDoorRuRead
import Derived.Test.YteaglmdlghdohaaDoorRuBytesR
namespace Go.Proofs.YteaglmdlghdohaaDoor
open Go.RowKit
set_option linter.unusedVariables false
set_option linter.unusedSimpArgs false

/-- true is answered, nothing that was there has turned -/
def YesB (w : World) (e : Ending) (w' : World) : Prop := e = .returned (.bool true) ∧ Below w.heap.size w w'

theorem ow_u8_mem {w : World} {base : Nat} {v : Value} {l : List Int} (h : OwU8 w base v l) : ∃ A c, v = .slice A l.length c ∧ l.length ≤ c := by
  obtain ⟨A, c, e, h1, _⟩ := h.form
  exact ⟨A, c, e, h1⟩

set_option maxHeartbeats 1600000 in
theorem known_any (w : World) (hT : Lib.Utf8Tabs 0 1 w) :
    Calls Tryd.prog 7 #[] w (YesB w) := by
  go_enter Tryd.func7, Tryd.ntmps7
  go_wp2_with (go_at_call 8; refine Hid.out ?_)
  refine Lib.hid ?_
  have r0 := Rd.new (enc := encI32) (size := 1) (fun _ => rfl) w 21 [97, 10, 228] (cs := #[.int .i32 97, .int .i32 10, .int .i32 228]) rfl rfl
  refine (bytes_any _ 3 3 [97, 10, 228] _ rfl r0 (by omega)).mono ?_
  rintro e w1 ⟨v, rfl, hown, y⟩
  have h1 : (if okR [97, 10, 228] = true then (0 : Int) else 3) = 0 := by decide
  have h2 : (if okR [97, 10, 228] = true then bytesR [97, 10, 228] else []) = intB [97, 10, 195, 164] := by decide
  rw [h1]
  rw [h2] at hown
  clear h1 h2 r0
  have hx1 := ext_trans (ext_alloc w _) y
  obtain ⟨A, c, rfl, hc⟩ := ow_u8_mem hown
  rw [intB_len] at hown hc ⊢
  simp only [List.length_cons, List.length_nil] at hown hc ⊢
  have hr := rd_intB.1 (hown.rd encU8_len)
  have hb1 := hown.base_le (B := w.heap.size) (by simp)
  clear hown y
  go_wp2_with (go_at_call 10; refine Hid.out ?_)
  refine Lib.hid ?_
  have r1 := Rd.new (enc := encU8) (size := 1) (fun _ => rfl) w1 5 [192, 128] (cs := #[.int .u8 192, .int .u8 128]) rfl rfl
  have hx2 := ext_trans hx1 (ext_alloc w1 (.cells #[.int .u8 192, .int .u8 128] 5))
  refine (read_any _ 2 2 [192, 128] _ rfl (Nat.le_refl _) r1 (by omega) (by intro x hx; simp at hx; omega) (Utf8Tabs_below hT hx2)).mono ?_
  rintro e w2 ⟨v2, rfl, hown2, y⟩
  have h3 : (if (readR [192, 128]).isSome = true then (0 : Int) else 3) = 3 := by decide
  rw [h3]
  clear h3 r1 hown2
  have hx3 := ext_trans hx2 y
  have hy := ext_trans (ext_alloc w1 (.cells #[.int .u8 192, .int .u8 128] 5)) y
  have hcv : (convert 23 9 (.slice A 4 c)).run Tryd.prog w2 = .ok (.string ⟨#[97, 10, 195, 164]⟩) w2 := conv_str (t := [97, 10, 195, 164]) rfl (hr.below hy (Nat.le_refl _))
  clear y hy hx1 hx2 hb1 hT hr
  go_wp2_with (go_at_call 15; refine Hid.out ?_)
  refine Lib.hid ?_
  have r2 := Rd.new (enc := encI32) (size := 1) (fun _ => rfl) w2 21 [10, 97, 10] (cs := #[.int .i32 10, .int .i32 97, .int .i32 10]) rfl rfl
  refine (newlines_any _ 3 3 [10, 97, 10] _ rfl r2 (by omega)).mono ?_
  rintro e w3 ⟨rfl, rfl⟩
  have h4 : ((nlR [10, 97, 10] : Nat) : Int) = 2 := by decide
  rw [h4]
  clear h4 r2 hcv
  go_wp2_with (go_at_call 13; refine Hid.out ?_)
  refine Lib.hid ?_
  refine (may_any 55296 _).mono ?_
  rintro e w4 ⟨rfl, rfl⟩
  have h5 : mayR 55296 = false := by decide
  rw [h5]
  clear h5
  go_wp2_with (fail)
  go_ret
  exact ⟨rfl, ext_trans hx3 (ext_alloc w2 _)⟩
end Go.Proofs.YteaglmdlghdohaaDoor
