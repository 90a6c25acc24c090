/- What has come of cells behind some ops. Plain mathematics. -/
import Derived.Test.YtipoeidmblnbbaaDoorPk24
namespace Go.Proofs.YtipoeidmblnbbaaDoor
set_option linter.unusedVariables false
set_option linter.unusedSimpArgs false

/-- how many cells ops take -/
def tks : List Opd → Nat
  | [] => 0
  | o :: x => tkN o + tks x
/-- what comes of ops alone -/
def doneC (l : List Ky) : List Opd → List Cl → List Cl
  | [], _ => []
  | o :: x, d => (layC o d).map (fun c => actC l c o.p) ++ doneC l x (d.drop (tkN o))
theorem tks_append (a b : List Opd) : tks (a ++ b) = tks a + tks b := by
  induction a with
  | nil => simp [tks]
  | cons o a ih => show tkN o + tks (a ++ b) = _; rw [ih]; simp only [tks]; omega
theorem doneC_append (l : List Ky) (a b : List Opd) : ∀ d, doneC l (a ++ b) d = doneC l a d ++ doneC l b (d.drop (tks a)) := by
  induction a with
  | nil => intro d; simp [doneC, tks]
  | cons o a ih =>
    intro d
    show _ ++ doneC l (a ++ b) (d.drop (tkN o)) = _
    rw [ih, List.drop_drop]
    simp only [doneC, tks, List.append_assoc]
theorem each_done (l : List Ky) (x : List Opd) : ∀ d, eachC l x d = doneC l x d ++ d.drop (tks x) := by
  induction x with
  | nil => intro d; simp [eachC, doneC, tks]
  | cons o x ih =>
    intro d
    show _ ++ eachC l x (d.drop (tkN o)) = _
    rw [ih, List.drop_drop]
    simp only [doneC, tks, List.append_assoc]
theorem each_append (l : List Ky) (a b : List Opd) (d : List Cl) : eachC l (a ++ b) d = doneC l a d ++ eachC l b (d.drop (tks a)) := by
  rw [each_done, each_done, doneC_append, tks_append, List.drop_drop, List.append_assoc]
theorem take_at {α : Type} {x : List α} {i : Nat} {o : α} (h : x[i]? = some o) : x.take (i + 1) = x.take i ++ [o] := by rw [List.take_add_one, h]; rfl
theorem doneC_at {l : List Ky} {x : List Opd} {i : Nat} {o : Opd} {d : List Cl} (h : x[i]? = some o) : doneC l (x.take (i + 1)) d = doneC l (x.take i) d ++ (layC o (d.drop (tks (x.take i)))).map (fun c => actC l c o.p) := by
  rw [take_at h, doneC_append]; simp [doneC]
theorem tks_at {x : List Opd} {i : Nat} {o : Opd} (h : x[i]? = some o) : tks (x.take (i + 1)) = tks (x.take i) + tkN o := by
  rw [take_at h, tks_append]; rfl
theorem tks_le {x : List Opd} (i : Nat) : tks (x.take i) ≤ tks x := by
  conv => rhs; rw [← List.take_append_drop i x]
  rw [tks_append]; omega
theorem done_le {l : List Ky} {x : List Opd} {i : Nat} {o : Opd} {d : List Cl} (h : x[i]? = some o) : (doneC l (x.take i) d).length + (layC o (d.drop (tks (x.take i)))).length ≤ (eachC l x d).length := by
  have e : x = x.take (i + 1) ++ x.drop (i + 1) := (List.take_append_drop _ _).symm
  conv => rhs; rw [e]
  rw [each_append, doneC_at h]
  simp
theorem tks_units {x : List Opd} (h : ∀ o ∈ x, isOp o) : tks x = takesU (units x) := by
  induction x with
  | nil => rfl
  | cons o x ih =>
    rw [units_cons, takesU_append, takesU_tk (h o (by simp)), ← ih (fun a ha => h a (List.mem_cons_of_mem _ ha))]; rfl
end Go.Proofs.YtipoeidmblnbbaaDoor
