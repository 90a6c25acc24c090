/- Merged texts: LinesLaw. -/
import Derived.Test.YtbdkbfoplpociaaGreatDoorK29
import Derived.Test.YtbdkbfoplpociaaGreatDoorK10
namespace Go.Proofs.YtbdkbfoplpociaaGreatDoor
set_option linter.unusedVariables false
set_option linter.unusedSimpArgs false

/-- behind the last place -/
def fromL (l : List Nat) : Nat := match l.getLast? with
  | none => 0
  | some q => q + 1
/-- what lines tells of places, one behind the other -/
def linesM (P : Nat → List Ch) : Mk → Nat → Nat → List Nat → Mk
  | m, _, _, [] => m
  | m, k, f, p :: t => linesM P (mkRetain (mkRetain m ((p : Int) - (f : Int)) []) 1 (P k)) (k + 1) (p + 1) t
def linesU (P : Nat → List Ch) : Nat → Nat → List Nat → List Un
  | _, _, [] => []
  | k, f, p :: t => List.replicate (p - f) (.ret []) ++ (.ret (P k) :: linesU P (k + 1) (p + 1) t)
theorem lines_told (P : Nat → List Ch) : ∀ (l : List Nat) (m : Mk) (k f : Nat) (us : List Un), Told m us → (us.length : Int) + (l.map (fun p : Nat => (p : Int) + 1)).sum ≤ 4611686018427387904 → Told (linesM P m k f l) (us ++ linesU P k f l)
  | [], m, k, f, us, h, _ => by rw [linesM, linesU, List.append_nil]; exact h
  | p :: t, m, k, f, us, h, hb => by
    rw [List.map_cons, List.sum_cons] at hb
    have hs : (0 : Int) ≤ (t.map (fun p : Nat => (p : Int) + 1)).sum := by
      clear hb
      induction t with
      | nil => exact Int.le_refl _
      | cons a t ih => rw [List.map_cons, List.sum_cons]; omega
    have h1 := h.retain ((p : Int) - (f : Int)) [] (by omega)
    have e1 : ((p : Int) - (f : Int)).toNat = p - f := by omega
    rw [e1] at h1
    have hl : (us ++ List.replicate (p - f) (.ret [] : Un)).length = us.length + (p - f) := by simp
    have h2 := h1.retain 1 (P k) (by rw [hl]; omega)
    have h3 := lines_told P t _ (k + 1) (p + 1) _ h2 (by
      have : ((us ++ List.replicate (p - f) (.ret [] : Un)) ++ List.replicate (1 : Int).toNat (.ret (P k) : Un)).length = us.length + (p - f) + 1 := by simp; omega
      rw [this]; omega)
    rw [linesM, linesU]
    have e : us ++ (List.replicate (p - f) (.ret []) ++ (.ret (P k) :: linesU P (k + 1) (p + 1) t)) = (us ++ List.replicate (p - f) (.ret []) ++ List.replicate (1 : Int).toNat (.ret (P k))) ++ linesU P (k + 1) (p + 1) t := by
      show _ = (us ++ List.replicate (p - f) (.ret []) ++ [.ret (P k)]) ++ _
      simp
    rw [e]; exact h3
theorem lines_bnd (P : Nat → List Ch) {S : Nat} (hP : ∀ k, (P k).length ≤ S) : ∀ (l : List Nat) (m : Mk) (k f K : Nat), MkB m K S → MkB (linesM P m k f l) (K + 4 * l.length) S
  | [], m, k, f, K, h => h
  | p :: t, m, k, f, K, h => by
    have h1 := (h.retain ((p : Int) - (f : Int)) (p := []) (Nat.zero_le _)).retain 1 (hP k)
    have h2 := lines_bnd P hP t _ (k + 1) (p + 1) _ h1
    rw [linesM]
    exact h2.mono (by simp; omega) (Nat.le_refl _)
theorem lines_snoc (P : Nat → List Ch) : ∀ (l : List Nat) (m : Mk) (k f p : Nat), linesM P m k f (l ++ [p]) = mkRetain (mkRetain (linesM P m k f l) ((p : Int) - ((match l.getLast? with | none => f | some q => q + 1 : Nat) : Int)) []) 1 (P (k + l.length))
  | [], m, k, f, p => rfl
  | q :: t, m, k, f, p => by
    have ih := lines_snoc P t (mkRetain (mkRetain m ((q : Int) - (f : Int)) []) 1 (P k)) (k + 1) (q + 1) p
    rw [List.cons_append, linesM, ih, linesM]
    have e1 : k + 1 + t.length = k + (q :: t).length := by simp; omega
    rw [e1]
    congr 2
    cases t with
    | nil => rfl
    | cons a t =>
      have : (q :: a :: t).getLast? = (a :: t).getLast? := by simp [List.getLast?_cons_cons]
      rw [this]
      cases h : (a :: t).getLast? with
      | none => simp at h
      | some z => rfl
end Go.Proofs.YtbdkbfoplpociaaGreatDoor
