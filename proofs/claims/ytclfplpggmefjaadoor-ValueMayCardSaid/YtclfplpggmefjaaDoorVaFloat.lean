/- The walks of IsNaN, Signbit, value.Float, value.Text and the document's none, Float. -/
import Derived.Test.YtclfplpggmefjaaDoorVaMake
import Derived.Test.YtclfplpggmefjaaDoorFlo
import Derived.Test.YtclfplpggmefjaaDoorRuRead
import Derived.Lib.ConvBytes
namespace Go.Proofs.YtclfplpggmefjaaDoor
open Go.RowKit
set_option linter.unusedVariables false
set_option linter.unusedSimpArgs false

theorem ret_boolV {a b : Bool} (h : a = b) : Ending.returned (.bool a) = Ending.returned (.bool b) := by rw [h]
theorem isNaN_any (b : Nat) (w : World) : Calls Tryd.prog 51 #[.float .f64 b] w fun e w' => e = .returned (.bool (isNanF b)) ∧ w = w' := by
  have h := order_self b
  have H := Lib.hid h
  clear h
  go_enter Tryd.func51, Tryd.ntmps51
  go_wp2_with (fail)
  go_ret
  exact ⟨ret_boolV H.out, rfl⟩
theorem nanF_nat (b : Nat) : nanF (b : Int) = isNanF b := by
  unfold nanF isNanF
  congr 1
  apply propext
  constructor <;> intro h <;> omega

theorem float_any (b : Nat) (w : World) (hb : b < 18446744073709551616) : Calls Tryd.prog 19 #[.float .f64 b] w fun e w' =>
    e = .returned (.agg #[.int .u8 3, .int .i64 0, .int .u64 (floatV b).f, .string ⟨#[]⟩]) ∧ Below w.heap.size w w' := by
  cases hN : isNanF b with
  | true =>
    have hf : (floatV b).f = 9221120237041090560 := by unfold floatV; rw [nanF_nat, hN]; rfl
    rw [hf]
    have H := Lib.hid hN
    clear hf hN
    go_enter Tryd.func19, Tryd.ntmps19
    go_wp2_with (go_at_call 51; refine (isNaN_any b _).mono ?_; rintro e w1 ⟨rfl, rfl⟩; rw [H.out])
    refine bodyPost_ret (v := .agg #[.int .u8 3, .int .i64 0, .int .u64 9221120237041090560, .string ⟨#[]⟩]) (by simp [results, Tryd.results19, go_sem]) rfl ?_
    exact ⟨rfl, ext_alloc w _⟩
  | false =>
    have hf : (floatV b).f = b := by unfold floatV; rw [nanF_nat, hN]; rfl
    rw [hf]
    have H := Lib.hid hN
    clear hf hN
    go_enter Tryd.func19, Tryd.ntmps19
    go_wp2_with (go_at_call 51; refine (isNaN_any b _).mono ?_; rintro e w1 ⟨rfl, rfl⟩; rw [H.out])
    refine bodyPost_ret (v := .agg #[.int .u8 3, .int .i64 0, .int .u64 b, .string ⟨#[]⟩]) (by simp [results, Tryd.results19, go_sem]) rfl ?_
    exact ⟨rfl, ext_alloc w _⟩
end Go.Proofs.YtclfplpggmefjaaDoor
