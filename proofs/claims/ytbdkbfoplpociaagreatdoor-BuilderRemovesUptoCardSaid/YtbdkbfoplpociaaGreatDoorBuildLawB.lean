/- Merged texts: BuildLaw. -/
import Derived.Test.YtbdkbfoplpociaaGreatDoorB3
import Derived.Test.YtbdkbfoplpociaaGreatDoorK33
namespace Go.Proofs.YtbdkbfoplpociaaGreatDoor
set_option linter.unusedVariables false
set_option linter.unusedSimpArgs false

theorem gone_any {l : List Ky} {i n N M : Nat} (h : i + n < N) (hM : N ≤ M) (hb : M ≤ 536870912) : FitU l (goneU i n) N M := by
  cases n with
  | zero =>
    have h1 : FitU l (onceU i 0 []) N N := once_fit (mayP_nil l) (by omega) (by omega) (by omega)
    exact FitU.up h1 hM
  | succ n => exact (gone_fit h (by omega)).up hM
theorem gone_two (l : List Ky) {d : List Cl} {i m j : Nat} (h1 : i ≤ m) (h2 : m ≤ j) (h3 : j ≤ d.length) : app l (goneU i (m - i)) (app l (goneU m (j - m)) d) = d.take i ++ d.drop j := by
  have e1 : app l (goneU m (j - m)) d = d.take m ++ d.drop j := by rw [app_gone l (by omega)]; congr 2; omega
  rw [e1, app_gone l (by rw [List.length_append, List.length_take, List.length_drop]; omega)]
  rw [List.take_append_of_le_length (by rw [List.length_take]; omega), List.take_take, Nat.min_eq_left h1, show i + (m - i) = m by omega]
  congr 1
  have : (d.take m).length = m := by rw [List.length_take]; omega
  rw [List.drop_append, this, Nat.sub_self, List.drop_zero, List.drop_eq_nil_of_le (by omega), List.nil_append]
theorem gone_one (l : List Ky) {d : List Cl} {i j : Nat} (h1 : i ≤ j) (h3 : j ≤ d.length) : app l (goneU i (j - i)) d = d.take i ++ d.drop j := by
  rw [app_gone l (by omega)]; congr 2; omega
end Go.Proofs.YtbdkbfoplpociaaGreatDoor
