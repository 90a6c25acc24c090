/- The walk of rubricref01.Bytes. -/
import Derived.Test.YtclfplpggmefjaaDoorRuReads
namespace Go.Proofs.YtclfplpggmefjaaDoor
open Go.RowKit
set_option linter.unusedVariables false
set_option linter.unusedSimpArgs false

def okR (l : List Int) : Bool := l.all mayR
def bytesR (l : List Int) : List Int := l.flatMap encR
theorem encR_len (r : Int) : 1 ≤ (encR r).length ∧ (encR r).length ≤ 4 := by
  unfold encR
  split
  · simp
  · split
    · simp
    · split <;> simp
theorem mayR_le {r : Int} (h : mayR r = true) : 0 ≤ r ∧ r ≤ 1114111 := by have := of_decide_eq_true h; omega
theorem bytesR_take {l : List Int} {i : Nat} {r : Int} (h : l[i]? = some r) : bytesR (l.take (i + 1)) = bytesR (l.take i) ++ encR r := by
  obtain ⟨hi, he⟩ := List.getElem?_eq_some_iff.1 h
  rw [List.take_succ_eq_append_getElem hi, he]
  simp [bytesR]
theorem okR_take {l : List Int} {i : Nat} {r : Int} (h : l[i]? = some r) : okR (l.take (i + 1)) = (okR (l.take i) && mayR r) := by
  obtain ⟨hi, he⟩ := List.getElem?_eq_some_iff.1 h
  rw [List.take_succ_eq_append_getElem hi, he]
  simp [okR, List.all_append]
theorem bytesR_len (l : List Int) : (bytesR l).length ≤ 4 * l.length := by
  induction l with
  | nil => simp [bytesR]
  | cons r l ih =>
    have := (encR_len r).2
    have e : bytesR (r :: l) = encR r ++ bytesR l := rfl
    rw [e, List.length_append, List.length_cons]
    omega
theorem okR_not {l : List Int} {i : Nat} {r : Int} (h : l[i]? = some r) (hr : mayR r = false) : okR l = false := by
  unfold okR
  rw [List.all_eq_false]
  exact ⟨r, List.mem_of_getElem? h, by simp [hr]⟩

/-- what the bytes of runes answer -/
def BytesOut (l : List Int) (w : World) (e : Ending) (w' : World) : Prop :=
  ∃ v, e = .returned (.tuple #[v, .int .i64 (if okR l = true then 0 else 3)]) ∧ OwU8 w' w.heap.size v (if okR l = true then bytesR l else []) ∧ Below w.heap.size w w'

end Go.Proofs.YtclfplpggmefjaaDoor
