/- The walk of rubriclaw03.ValueOrder. -/
import Derived.Test.YtclfplpggmefjaaDoorVaOrders
import Derived.Test.YtclfplpggmefjaaDoorClass
namespace Go.Proofs.YtclfplpggmefjaaDoor
open Go.RowKit
set_option linter.unusedVariables false
set_option linter.unusedSimpArgs false

theorem tabs_good {w : World} {O : List (Nat × Obj)} {a b : Nat} (hT : Lib.Utf8Tabs a b w) (x : GW w O) : Lib.Utf8Tabs a b x.val := Utf8Tabs_below hT x.ok.1
theorem may_size {v : V} (h : mayV v = true) : v.s.size ≤ 64 := by
  obtain ⟨k, n, f, s⟩ := v
  unfold mayV at h
  have hz : (⟨#[]⟩ : ByteArray).size = 0 := rfl
  split at h
  · have := congrArg V.s (of_decide_eq_true h); simp only [flagV] at this; simp only [this, hz]; omega
  · split at h
    · have := congrArg V.s (of_decide_eq_true h); simp only [intV] at this; simp only [this, hz]; omega
    · split at h
      · have := congrArg V.s (of_decide_eq_true h); simp only [floatV] at this; simp only [this, hz]; omega
      · split at h
        · exact (of_decide_eq_true (Bool.and_eq_true_iff.1 h).1).1
        · cases h
theorem less_class {k n f k' n' f' : Int} {s s' : ByteArray} {w : World} {O : List (Nat × Obj)} {b : Bool} (hT : Lib.Utf8Tabs 1 2 w) (hv : okV ⟨k, n, f, s⟩) (hv' : okV ⟨k', n', f', s'⟩) (x : GW w O) (h : lessV ⟨k, n, f, s⟩ ⟨k', n', f', s'⟩ = b) :
    Calls Tryd.prog 22 #[.agg #[.int .u8 k, .int .i64 n, .int .u64 f, .string s], .agg #[.int .u8 k', .int .i64 n', .int .u64 f', .string s']] x.val fun e w' => e = .returned (.bool b) ∧ ∃ y : GW w O, w' = y.val :=
  good_call x ((lessV_any k n f k' n' f' s s' _ hv hv' (tabs_good hT x)).mono fun e w' h' => ⟨by rw [h'.1, h], h'.2⟩)
end Go.Proofs.YtclfplpggmefjaaDoor
