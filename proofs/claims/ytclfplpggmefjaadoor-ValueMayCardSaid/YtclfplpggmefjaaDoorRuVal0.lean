/- What the walk of utf8.Valid needs: bytes below 128, tails of a slice, the tables. -/
import Derived.Test.YtclfplpggmefjaaDoorRuWord
import Derived.Lib.LaidU8
import Derived.Deep.LoopGhost
import Derived.Deep.DeepMust
import Derived.Deep.CutBlock
import Derived.Deep.DeepCutAuto
import Derived.Deep.DeepBigQuietO
namespace Go.Proofs.YtclfplpggmefjaaDoor
open Go.RowKit
set_option linter.unusedVariables false
set_option linter.unusedSimpArgs false

/-- the first k bytes are below 128 -/
def ascL (t : List UInt8) (k : Nat) : Prop := ∀ b ∈ t.take k, b.toNat < 128
theorem ascL_word {t : List UInt8} (h : 8 ≤ t.length) : (Lib.leNat (t.take 8) &&& 9259542123273814144 = 0) ↔ ascL t 8 := by
  have h8 : (t.take 8).length = 8 := by rw [List.length_take]; omega
  have := Lib.leNat_mask (t.take 8)
  rw [h8, Lib.maskN8] at this
  exact this
theorem ascL_add {t : List UInt8} {a b : Nat} (ha : ascL t a) (hb : ascL (t.drop a) b) : ascL t (a + b) := by
  unfold ascL at *
  rw [List.take_add]
  intro x hx
  rcases List.mem_append.1 hx with h | h
  · exact ha x h
  · exact hb x h
theorem ascL_one {t : List UInt8} (h0 : 0 < t.length) (h : (t[0]'h0).toNat < 128) : ascL t 1 := by
  match t, h0 with
  | a :: r, _ =>
    intro b hb
    simp at hb h
    subst hb
    exact h
theorem ascL_skip {t : List UInt8} {k : Nat} (h : ascL t k) : Lib.validD (t.drop k) = Lib.validD t := (Lib.validD_ascii k t h).symm
theorem leNat8 (t : List UInt8) : Lib.leNat (t.take 8) < 18446744073709551616 := by
  have h := Lib.leNat_lt (t.take 8)
  refine Nat.lt_of_lt_of_le h ?_
  rw [show (18446744073709551616 : Nat) = 256 ^ 8 from by decide]
  exact Nat.pow_le_pow_right (by omega) (by rw [List.length_take]; omega)

theorem below_draws {B : Nat} {a w : World} {n : Nat} (h : Below B a w) : Below B a (w.drewN n) := h.trans ⟨rfl, rfl, rfl, Nat.le_refl _, fun _ _ => rfl⟩
set_option maxRecDepth 100000 in
theorem and7 : ∀ X : Fin 256, bits .and .u8 ((X.val : Nat) : Int) 7 = ((X.val % 8 : Nat) : Int) := by decide
theorem getD_lt (l : List UInt8) (i : Nat) (h : i < l.length) : l.getD i 0 = l[i] := by simp [List.getD, h]
/-- a quiet call behind draws -/
theorem calls_more {P : Program} {f : FuncId} {args : Array Value} {w : World} {p q : Nat} {v : Value}
    (h : Calls P f args (w.drewN (p + q)) fun e w' => e = .returned v ∧ ∃ k, w' = (w.drewN (p + q)).drewN k) : Calls P f args (w.drewN (p + q)) fun e w' => e = .returned v ∧ ∃ k, w' = w.drewN (p + k) :=
  h.mono fun _ _ ⟨h1, k, h2⟩ => ⟨h1, q + k, by rw [h2, World.drewN_drewN]; congr 1; omega⟩

/-- the address behind k bytes of n -/
def adv (A : Option Addr) (n k : Nat) : Option Addr := if n = k then A else A.map (·.add (k * 1))
theorem rd_adv {w : World} {B n k : Nat} {A : Option Addr} {t : List UInt8} (h : RdB w B A t) (hn : n = t.length) (hk : k ≤ n) : RdB w B (adv A n k) (t.drop k) := by
  subst hn
  exact h.cut hk (Nat.le_refl _)
theorem Tryd.elU8 : Tryd.prog.elem 84 = 5 := by kernel_rfl
theorem size_u8 (W : World) : (sizeOf 5).run Tryd.prog W = .ok 1 W := by
  obtain ⟨i0, hi0, hz0, hz1, hz2⟩ := info_of Tryd.infoU8
  simp [sizeOf, typeInfo, hi0, hz1]
theorem from_eq {A A' : Option Addr} {n k n' : Nat} {z : Int} (hz : z = (k : Int)) (hA : adv A n k = A') (hn : n - k = n') (hk : k ≤ n) (W : World) : (Instr.slice 84 (.slice A n n) (some (.int .i64 z)) none none).run Tryd.prog W = .ok (.slice A' n' n') W := by
  subst hz; subst hA; subst hn
  rw [run_slice_l W _ A n n (by rw [Tryd.elU8]; exact Tryd.slU8) .i64 (k : Int) (by omega) (by omega), Tryd.elU8, size_u8]
  simp [sliced, adv, Result.andThen]
theorem all_eq (A : Option Addr) (n c : Nat) (hc : n ≤ c) (W : World) : (Instr.slice 84 (.slice A n c) none (some (.int .i64 (n : Int))) (some (.int .i64 (n : Int)))).run Tryd.prog W = .ok (.slice A n n) W := by
  rw [run_slice_hm W _ A n c (by rw [Tryd.elU8]; exact Tryd.slU8) .i64 .i64 (n : Int) (n : Int) (by omega) (by omega) (by omega), Tryd.elU8, size_u8]
  cases A <;> simp [sliced, Result.andThen, add_zero']
end Go.Proofs.YtclfplpggmefjaaDoor
