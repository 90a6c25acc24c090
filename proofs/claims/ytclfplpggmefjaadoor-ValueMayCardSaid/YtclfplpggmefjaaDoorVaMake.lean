/- The walks of what makes values: Flag, Int, Float, and of math's bits. -/
import Derived.Test.YtclfplpggmefjaaDoorEq
import Derived.Laws.Externs
import Derived.Laws.BitsAllLaws
import Derived.Test.YtclfplpggmefjaaDoorRuTypes
namespace Go.Proofs.YtclfplpggmefjaaDoor
open Go.RowKit
set_option linter.unusedVariables false
set_option linter.unusedSimpArgs false

/-- a pattern of what is no number -/
def nanF (f : Int) : Bool := decide (9218868437227405312 < f % 9223372036854775808)
/-- the one pattern -/
def NaNbits : Int := 9221120237041090560
def floatV (f : Int) : V := ⟨3, 0, if nanF f = true then 9221120237041090560 else f, ⟨#[]⟩⟩
def flagV (b : Bool) : V := ⟨1, if b = true then 1 else 0, 0, ⟨#[]⟩⟩
def intV (n : Int) : V := ⟨2, n, 0, ⟨#[]⟩⟩
def textV (s : ByteArray) : V := ⟨4, 0, 0, s⟩

@[go_sem high] theorem run_frombits (n : Int) (w : World) : (callFunc 20 #[.int .u64 n]).run Tryd.prog w = .ok (.value (.float .f64 n.toNat)) w := by
  rw [run_callFunc_extern (fn := Tryd.f20) (e := Extern.MathFloatBits.float64frombits) Tryd.func20 (by kernel_rfl) (by kernel_rfl) (by kernel_rfl) (by kernel_rfl)]
  rfl
@[go_sem high] theorem run_bits (n : Nat) (w : World) : (callFunc 15 #[.float .f64 n]).run Tryd.prog w = .ok (.value (.int .u64 (n : Int))) w := by
  rw [run_callFunc_extern (fn := Tryd.f15) (e := Extern.MathFloatBits.float64bits) Tryd.func15 (by kernel_rfl) (by kernel_rfl) (by kernel_rfl) (by kernel_rfl)]
  rfl

theorem flag_any (b : Bool) (w : World) : Calls Tryd.prog 17 #[.bool b] w fun e w' => e = .returned (.agg #[.int .u8 1, .int .i64 (if b = true then 1 else 0), .int .u64 0, .string ⟨#[]⟩]) ∧ Below w.heap.size w w' := by
  cases b
  · go_enter Tryd.func17, Tryd.ntmps17
    go_wp2_with (fail)
    refine bodyPost_ret (v := .agg #[.int .u8 1, .int .i64 0, .int .u64 0, .string ⟨#[]⟩]) (by simp [results, Tryd.results17, go_sem]) rfl ?_
    exact ⟨rfl, ext_trans (ext_alloc w _) (ext_alloc _ _)⟩
  · go_enter Tryd.func17, Tryd.ntmps17
    go_wp2_with (fail)
    refine bodyPost_ret (v := .agg #[.int .u8 1, .int .i64 1, .int .u64 0, .string ⟨#[]⟩]) (by simp [results, Tryd.results17, go_sem]) rfl ?_
    exact ⟨rfl, ext_trans (ext_alloc w _) (ext_alloc _ _)⟩
theorem int_any (n : Int) (w : World) : Calls Tryd.prog 18 #[.int .i64 n] w fun e w' => e = .returned (.agg #[.int .u8 2, .int .i64 n, .int .u64 0, .string ⟨#[]⟩]) ∧ Below w.heap.size w w' := by
  go_enter Tryd.func18, Tryd.ntmps18
  go_wp2_with (fail)
  refine bodyPost_ret (v := .agg #[.int .u8 2, .int .i64 n, .int .u64 0, .string ⟨#[]⟩]) (by simp [results, Tryd.results18, go_sem]) rfl ?_
  exact ⟨rfl, ext_alloc w _⟩
end Go.Proofs.YtclfplpggmefjaaDoor
