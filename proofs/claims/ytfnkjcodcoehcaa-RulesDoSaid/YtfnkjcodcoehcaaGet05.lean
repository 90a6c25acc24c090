/- The walk of the document's Get of a set (rubricref05). -/
import Derived.Test.YtfnkjcodcoehcaaFind
import Derived.Test.YtfnkjcodcoehcaaSchema1
namespace Go.Proofs.Ytfnkjcodcoehcaa
open Go.RowKit
set_option linter.unusedVariables false
set_option linter.unusedSimpArgs false

theorem getA_drop {l : List At} {m : Nat} {x : At} {k : Int} {R : Option V} (hd : l.drop m = x :: l.drop (m + 1)) (h : getA (l.drop m) k = R) (hx : x.key ≠ k) : getA (l.drop (m + 1)) k = R := by
  rw [hd] at h
  rw [← h]
  simp [getA, hx]
theorem getA_found {l : List At} {m : Nat} {x : At} {k : Int} {R : Option V} (hd : l.drop m = x :: l.drop (m + 1)) (h : getA (l.drop m) k = R) (hx : x.key = k) : R = some x.v := by
  rw [hd] at h
  rw [← h]
  simp [getA, hx]
theorem getA_end {l : List At} {m : Nat} {k : Int} {R : Option V} (hm : l.length ≤ m) (h : getA (l.drop m) k = R) : R = none := by
  rw [List.drop_eq_nil_of_le hm] at h
  rw [← h]
  rfl
/-- what the document's Get answers -/
def GetOut5 (l : List At) (key : Int) (w : World) (e : Ending) (w' : World) : Prop :=
  ∃ k n f s q, e = .returned (.tuple #[.agg #[.int .u8 k, .int .i64 n, .int .u64 f, .string s], .bool q]) ∧ (getA l key).getD V.zero = ⟨k, n, f, s⟩ ∧ (getA l key).isSome = q ∧ Below w.heap.size w w'
set_option maxRecDepth 100000 in
set_option maxHeartbeats 800000 in
theorem get05_any (A : Option Addr) (n c : Nat) (l : List At) (id : Int) (w : World) (hn : n = l.length) (h : RdAt w w.heap.size A l) (hb : n ≤ 140737488355328) :
    Calls Try.prog 43 #[.slice A n c, .int .i64 id] w (GetOut5 l id w) := by
  have N := Lib.hid hn
  generalize hR : getA l id = R
  have HR := Lib.hid hR
  clear hn hR
  unfold GetOut5
  rw [HR.out]
  have y0 := ext_alloc w (.cells #[.int .u8 0, .int .i64 0, .int .u64 0, .string ⟨#[]⟩] 47)
  have HB := Lib.hid (heap_alloc_new w (.cells #[.int .u8 0, .int .i64 0, .int .u64 0, .string ⟨#[]⟩] 47))
  go_enter Try.func43, Try.ntmps43
  go_wp2_with (fail)
  go_loopg [6] n (fun g iv wr => ∃ m : Nat, m ≤ n ∧ g = n - m ∧ iv = .int .i64 (m : Int) ∧ wr = w.alloc (.cells #[.int .u8 0, .int .i64 0, .int .u64 0, .string ⟨#[]⟩] 47) ∧ Hid (getA (l.drop m) id = R))
  case atStart => exact ⟨0, by omega, rfl, rfl, rfl, Lib.hid (by rw [List.drop_zero]; exact HR.out)⟩
  case round =>
    obtain ⟨m, hm, hg, rfl, rfl, HI⟩ := hrel
    have HG := Lib.hid hg
    clear hg HR
    by_cases hlt : m < n
    · have hl1 : m < l.length := by have := N.out; omega
      obtain ⟨ad, x, rfl, had, hd1, _, hc0⟩ := h.el hl1
      have hc1 := hc0.keep (w' := w.alloc (.cells #[.int .u8 0, .int .i64 0, .int .u64 0, .string ⟨#[]⟩] 47)) (fun q hq => World.cell?_alloc_lt w _ q (by rw [hq, add_block]; exact had))
      have HD := Lib.hid hd1
      obtain ⟨x1, x2, x3, x4, x5⟩ := x
      obtain ⟨r0, r1, r2, r3, r4⟩ := at_cells hc1
      clear hc0 hc1 hd1
      have hw2 : IntKind.i64.wrap ((m:Int) + 1) = (m : Int) + 1 := IntWalk.i64_in _ (by omega)
      obtain ⟨b0, b1, b2, b3⟩ := box_v HB.out
      by_cases hle : x1 = id
      · subst hle
        go_wp2_with (fail)
        refine bodyPost_ret (v := .tuple #[.agg #[.int .u8 x2, .int .i64 x3, .int .u64 x4, .string x5], .bool true]) (by simp [results, Try.results43, go_sem]) rfl ?_
        have hr := getA_found HD.out HI.out rfl
        exact ⟨x2, x3, x4, x5, true, rfl, by rw [hr]; rfl, by rw [hr]; rfl, ext_alloc w _⟩
      · go_wp2_with (fail)
        go_roundg (n - (m + 1))
        case measure => have := HG.out; omega
        case rel => exact ⟨m + 1, by omega, rfl, by go_num, rfl, Lib.hid (getA_drop HD.out HI.out hle)⟩
    · have HE := Lib.hid (getA_end (m := m) (by have := N.out; omega) HI.out)
      go_wp2_with (fail)
      refine bodyPost_ret (v := .tuple #[.agg #[.int .u8 0, .int .i64 0, .int .u64 0, .string ⟨#[]⟩], .bool false]) (by simp [results, Try.results43, go_sem]) rfl ?_
      exact ⟨0, 0, 0, ⟨#[]⟩, false, rfl, by rw [HE.out]; rfl, by rw [HE.out]; rfl, ext_alloc w _⟩
end Go.Proofs.Ytfnkjcodcoehcaa
