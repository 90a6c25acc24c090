/- The walks of rubricref01.Same and of both Newlines. -/
import Derived.Test.YtclfplpggmefjaaDoorRuTypes
import Derived.Deep.LoopGhost
import Derived.Deep.DeepMust
namespace Go.Proofs.YtclfplpggmefjaaDoor
open Go.RowKit
set_option linter.unusedVariables false
set_option linter.unusedSimpArgs false

theorem ret_boolR {a b : Bool} (h : a = b) : Ending.returned (.bool a) = Ending.returned (.bool b) := by rw [h]
/-- the answer v, and nothing but draws -/
def QuietR (v : Value) (w : World) (e : Ending) (w' : World) : Prop := e = .returned v ∧ ∃ d, w' = w.drewN d

/-- how many newlines -/
def nlR (l : List Int) : Nat := l.countP (fun r => r == 10)
theorem nlR_take {l : List Int} {i : Nat} {r : Int} (h : l[i]? = some r) : nlR (l.take (i + 1)) = nlR (l.take i) + (if r = 10 then 1 else 0) := by
  obtain ⟨hi, he⟩ := List.getElem?_eq_some_iff.1 h
  rw [List.take_succ_eq_append_getElem hi, he]
  simp [nlR, List.countP_append, List.countP_cons]
theorem nlR_le (l : List Int) (i : Nat) : nlR (l.take i) ≤ l.length := by
  have h1 := List.countP_le_length (p := fun r => r == (10 : Int)) (l := l.take i)
  have h2 := List.length_take (i := i) (l := l)
  unfold nlR
  omega

end Go.Proofs.YtclfplpggmefjaaDoor
