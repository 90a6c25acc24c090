/- slices.Clone of keys. -/
import Derived.Test.YtfnkjcodcoehcaaKey
import Derived.Test.YtfnkjcodcoehcaaOwnOps
namespace Go.Proofs.Ytfnkjcodcoehcaa
open Go.RowKit
set_option linter.unusedVariables false
set_option linter.unusedSimpArgs false

set_option maxRecDepth 100000 in
set_option maxHeartbeats 400000 in
theorem cloneKy_any (A : Option Addr) (n c : Nat) (l : List Ky) (w : World) (hn : n = l.length) (h : RdKy w w.heap.size A l) (hb : n ≤ 100000000) :
    Calls Try.prog 20 #[.slice A n c] w (NewKy l w) := by
  cases A with
  | none =>
    have hl : l = [] := by
      cases l with
      | nil => rfl
      | cons a l => obtain ⟨ad, e, _⟩ := h (by simp); cases e
    subst hl
    have hn0 : n = 0 := by simpa using hn
    subst hn0
    clear hn
    have hq := fun (w : World) => Lib.run_eql_slice_nil (P := Try.prog) w 22 53 none 0 c 0 0 Try.slKy
    go_enter Try.func20, Try.ntmps20
    go_wp2_with (fail)
    go_ret
    exact ⟨none, 0, rfl, Ow.nil _ _, Below.refl _ _⟩
  | some ad =>
    have N := Lib.hid hn
    clear hn
    have hq := fun (w : World) => Lib.run_eql_slice_nil (P := Try.prog) w 22 53 (some ad) n c 0 0 Try.slKy
    go_enter Try.func20, Try.ntmps20
    go_wp2_with (first
      | (at_builtin; refine app_ky (m := l) rfl (.tmp 5) (.tmp 6) rfl rfl (by exact Ow.empty _ w.heap.size _) _ _ _ _ rfl N.out (by exact h.ext (ext_alloc w _)) (by have := N.out; simp only [List.length_nil]; omega) (by simp) ?_; intro v' w' hown' hgr hv'))
    rw [List.nil_append] at hown'
    obtain ⟨A', c', rfl, _, _⟩ := hown'.form
    go_ret
    exact ⟨A', c', rfl, hown', (ext_alloc w _).grown hgr (by simp) (fun k hk => by cases hk)⟩
end Go.Proofs.Ytfnkjcodcoehcaa
