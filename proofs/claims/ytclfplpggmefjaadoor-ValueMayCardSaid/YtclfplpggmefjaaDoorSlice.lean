/- Slice expressions as run equations: the answer's address under one name. Nothing of the program stands here. -/
import Derived.Test.YtclfplpggmefjaaDoorBase
namespace Go.Proofs.YtclfplpggmefjaaDoor
open Go.RowKit
set_option linter.unusedVariables false

/-- the address behind k elements, of a slice with room c -/
def advS (A : Option Addr) (c k s : Nat) : Option Addr := if c = k then A else A.map (·.add (k * s))

section
variable {P : Program} {T E : TypeId} {s n n' c c' k l : Nat} {A A' : Option Addr} {y z : Int}
theorem sl_from (hT : P.underlying T = some (.slice E)) (hE : P.elem T = E) (hs : ∀ W, (sizeOf E).run P W = .ok s W) (hz : z = (k : Int)) (hA : advS A c k s = A') (hn : n - k = n') (hc : c - k = c') (hk : k ≤ n) (hnc : n ≤ c) (W : World) :
    (Instr.slice T (.slice A n c) (some (.int .i64 z)) none none).run P W = .ok (.slice A' n' c') W := by
  subst hz; subst hA; subst hn; subst hc
  rw [run_slice_l W T A n c (by rw [hE]; exact hT) .i64 (k : Int) (by omega) (by omega), hE, hs]
  simp [sliced, advS, Result.andThen]
theorem sl_both (hT : P.underlying T = some (.slice E)) (hE : P.elem T = E) (hs : ∀ W, (sizeOf E).run P W = .ok s W) (hy : y = (k : Int)) (hz : z = (l : Int)) (hA : advS A c k s = A') (hn : l - k = n') (hc : c - k = c') (hk : k ≤ l) (hl : l ≤ c) (W : World) :
    (Instr.slice T (.slice A n c) (some (.int .i64 y)) (some (.int .i64 z)) none).run P W = .ok (.slice A' n' c') W := by
  subst hy; subst hz; subst hA; subst hn; subst hc
  rw [run_slice_lh W T A n c (by rw [hE]; exact hT) .i64 .i64 (k : Int) (l : Int) (by omega) (by omega) (by omega), hE, hs]
  simp [sliced, advS, Result.andThen]
theorem sl_to (hT : P.underlying T = some (.slice E)) (hE : P.elem T = E) (hs : ∀ W, (sizeOf E).run P W = .ok s W) (hz : z = (l : Int)) (hl : l ≤ c) (W : World) :
    (Instr.slice T (.slice A n c) none (some (.int .i64 z)) none).run P W = .ok (.slice A l c) W := by
  subst hz
  rw [run_slice_h W T A n c (by rw [hE]; exact hT) .i64 (l : Int) (by omega) (by omega), hE, hs]
  cases A <;> simp [sliced, Result.andThen, add_zero']
end
section
variable {α : Type} {enc : α → List Value} {s : Nat} {w : World} {B n c k : Nat} {A A' : Option Addr} {l : List α}
theorem Rd.advS (h : Rd enc s w B A l) (hk : k ≤ l.length) (hc : l.length ≤ c) : Rd enc s w B (advS A c k s) (l.drop k) := h.cut hk hc
end
end Go.Proofs.YtclfplpggmefjaaDoor
