/- The walks of which rune may be: utf8.ValidRune, runes.May, rubricref01.May. -/
import Derived.Test.YteaglmdlghdohaaDoorBase
import Derived.Test.YteaglmdlghdohaaDoorProg
namespace Go.Proofs.YteaglmdlghdohaaDoor
open Go.RowKit
set_option linter.unusedVariables false
set_option linter.unusedSimpArgs false

/-- may a rune be? -/
def mayR (r : Int) : Bool := decide (0 ≤ r ∧ r < 55296 ∨ 57344 ≤ r ∧ r ≤ 1114111)

theorem valid_any (r : Int) (w : World) : Calls Tryd.prog 21 #[.int .i32 r] w fun e w' => e = .returned (.bool (mayR r)) ∧ w = w' := by
  by_cases h1 : 0 ≤ r
  · by_cases h2 : r < 55296
    · have h3 : mayR r = true := decide_eq_true (.inl ⟨h1, h2⟩)
      rw [h3]
      go_enter Tryd.func21, Tryd.ntmps21
      go_wp2_with (fail)
      go_ret
      exact ⟨rfl, rfl⟩
    · by_cases h4 : 57343 < r
      · by_cases h5 : r ≤ 1114111
        · have h3 : mayR r = true := decide_eq_true (.inr ⟨by omega, h5⟩)
          rw [h3]
          go_enter Tryd.func21, Tryd.ntmps21
          go_wp2_with (fail)
          go_ret
          exact ⟨rfl, rfl⟩
        · have h3 : mayR r = false := decide_eq_false (by omega)
          rw [h3]
          go_enter Tryd.func21, Tryd.ntmps21
          go_wp2_with (fail)
          go_ret
          exact ⟨rfl, rfl⟩
      · have h3 : mayR r = false := decide_eq_false (by omega)
        rw [h3]
        go_enter Tryd.func21, Tryd.ntmps21
        go_wp2_with (fail)
        go_ret
        exact ⟨rfl, rfl⟩
  · have h3 : mayR r = false := decide_eq_false (by omega)
    rw [h3]
    have h4 : ¬ 57343 < r := by omega
    go_enter Tryd.func21, Tryd.ntmps21
    go_wp2_with (fail)
    go_ret
    exact ⟨rfl, rfl⟩

theorem may_any (r : Int) (w : World) : Calls Tryd.prog 13 #[.int .i32 r] w fun e w' => e = .returned (.bool (mayR r)) ∧ w = w' := by
  generalize hR : mayR r = R
  have HR := Lib.hid hR
  clear hR
  go_enter Tryd.func13, Tryd.ntmps13
  go_wp2_with (go_at_call 21; refine Hid.out ?_)
  refine Lib.hid ?_
  refine (valid_any r w).mono ?_
  rintro e w1 ⟨rfl, rfl⟩
  rw [HR.out]
  go_wp2_with (fail)
  go_ret
  exact ⟨rfl, rfl⟩
end Go.Proofs.YteaglmdlghdohaaDoor
