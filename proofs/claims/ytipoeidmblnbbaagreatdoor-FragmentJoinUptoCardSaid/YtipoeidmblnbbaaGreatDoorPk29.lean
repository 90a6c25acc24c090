/- Fragments joined and moved. Plain mathematics. -/
import Derived.Test.YtipoeidmblnbbaaGreatDoorPk26
namespace Go.Proofs.YtipoeidmblnbbaaGreatDoor
set_option linter.unusedVariables false
set_option linter.unusedSimpArgs false

theorem cutC_is {d : List Cl} {i j : Nat} (h1 : i ≤ j) (h2 : j ≤ d.length) : cutC d (i : Int) (j : Int) = (d.drop i).take (j - i) := by
  unfold cutC
  rw [if_neg (by omega)]
  rfl
theorem cutC_length {d : List Cl} {i j : Nat} (h1 : i ≤ j) (h2 : j ≤ d.length) : (cutC d (i : Int) (j : Int)).length = j - i := by
  rw [cutC_is h1 h2, List.length_take, List.length_drop]; omega
theorem cut_join {d : List Cl} {i m j : Nat} (h1 : i ≤ m) (h2 : m ≤ j) (h3 : j ≤ d.length) : cutC d (i : Int) (m : Int) ++ cutC d (m : Int) (j : Int) = cutC d (i : Int) (j : Int) := by
  rw [cutC_is h1 (by omega), cutC_is h2 h3, cutC_is (by omega) h3, show j - i = (m - i) + (j - m) by omega, List.take_add, List.drop_drop, show i + (m - i) = m by omega]
theorem lines_append (f g : List Cl) : linesC (f ++ g) = linesC f + linesC g := by unfold linesC; rw [List.filter_append, List.length_append]
theorem cut_ok {l : List Ky} {d : List Cl} (hd : mayD l d = 0) (i j : Int) : ∀ c ∈ cutC d i j, okCl l c := fun c hc => (mayD_iff.1 hd).2.1 c (cutC_mem hc)
theorem paste_take {d f : List Cl} {p : Nat} (hp : p ≤ d.length) : (d.take p ++ (f ++ d.drop p)).take p = d.take p := by
  rw [List.take_append_of_le_length (by rw [List.length_take]; omega), List.take_of_length_le (by rw [List.length_take]; omega)]
theorem paste_drop {d f : List Cl} {p : Nat} (hp : p ≤ d.length) : (d.take p ++ (f ++ d.drop p)).drop p = f ++ d.drop p := by
  have e : (d.take p).length = p := by rw [List.length_take]; omega
  rw [List.drop_append_of_le_length (by omega), List.drop_of_length_le (by omega), List.nil_append]
theorem paste_both (l : List Ky) {d : List Cl} (f g : List Cl) {p : Nat} (hp : p ≤ d.length) : app l (pasteU p f) (app l (pasteU p g) d) = app l (pasteU p (f ++ g)) d := by
  rw [app_paste l p g d hp, app_paste l p (f ++ g) d hp, app_paste l p f _ (by simp only [List.length_append, List.length_take, List.length_drop]; omega), paste_take hp, paste_drop hp, List.append_assoc]
def goneU (i n : Nat) : List Un := List.replicate i (.ret []) ++ List.replicate n .del
theorem app_gone (l : List Ky) {d : List Cl} {i n : Nat} (h : i + n ≤ d.length) : app l (goneU i n) d = d.take i ++ d.drop (i + n) := by
  unfold goneU
  rw [app_ret0 l i _ d (by omega), app_dels, List.drop_drop]
theorem gone_fit {l : List Ky} {i n N : Nat} (h : i + (n + 1) < N) (hb : N ≤ 536870912) : FitU l (goneU i (n + 1)) N N := by
  refine ⟨fun u hu => ?_, ?_, by omega, Nat.le_refl _, ?_, ?_, ?_, ?_⟩
  · unfold goneU at hu
    rcases List.mem_append.1 hu with hu | hu
    · rw [(List.mem_replicate.1 hu).2]; exact mayP_nil l
    · rw [(List.mem_replicate.1 hu).2]; trivial
  · unfold goneU; rw [takes_ret, takesU_del]; omega
  · unfold goneU
    rw [finU_append, finU_reps, takesU_ret, Bool.true_and, finU_dels N n _ (by omega)]
    exact decide_eq_true (by omega)
  · unfold goneU; rw [takes_ret, takesU_del, makes_ret, makesU_del]; omega
  · unfold goneU; rw [takes_ret, takesU_del]; omega
  · unfold goneU; rw [makes_ret, makesU_del]; omega
theorem gone_back (l : List Ky) {d : List Cl} {i j : Nat} (h1 : i ≤ j) (h2 : j ≤ d.length) : app l (pasteU i (cutC d (i : Int) (j : Int))) (d.take i ++ d.drop j) = d := by
  have e : (d.take i).length = i := by rw [List.length_take]; omega
  rw [app_paste l i _ _ (by rw [List.length_append, e]; omega), List.take_append_of_le_length (by omega), List.take_of_length_le (by omega), List.drop_append_of_le_length (by omega), List.drop_of_length_le (by omega), List.nil_append, cutC_is h1 h2]
  have e2 : (d.drop i).take (j - i) ++ d.drop j = d.drop i := by
    conv => rhs; rw [← List.take_append_drop (j - i) (d.drop i), List.drop_drop, show i + (j - i) = j by omega]
  rw [e2, List.take_append_drop]
theorem opD_one {n : Nat} (h : 1 ≤ n) : isOp (opD (n : Int)) := .inr (.inl ⟨rfl, by show (1 : Int) ≤ n; omega, rfl, rfl, rfl⟩)
end Go.Proofs.YtipoeidmblnbbaaGreatDoor
