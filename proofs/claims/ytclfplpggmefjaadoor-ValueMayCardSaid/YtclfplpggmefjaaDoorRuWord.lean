/- The walk of utf8.word at a slice of bytes; a slice of bytes as a list of UInt8. -/
import Derived.Test.YtclfplpggmefjaaDoorRuTypes
import Derived.Lib.ValidAsc
import Derived.Lib.EndianBits
import Derived.Laws.BitsAllLaws
import Derived.Shelf.Unicode.WordAny
namespace Go.Proofs.YtclfplpggmefjaaDoor
open Go.RowKit
set_option linter.unusedVariables false
set_option linter.unusedSimpArgs false

def encB (u : UInt8) : List Value := [.int .u8 (u.toNat : Int)]
abbrev RdB := @Rd UInt8 encB 1
theorem encB_len (a : UInt8) : (encB a).length = 1 := rfl

section
variable {w : World} {B : Nat} {ad : Addr} {t : List UInt8}
theorem RdB.at0 (h : RdB w B (some ad) t) (hi : 0 < t.length) : w.cell? ad = some (.int .u8 (t[0].toNat : Int)) := by
  obtain ⟨ad', e, _, hc⟩ := h hi
  injection e with e
  subst e
  have := hc 0 hi 0 _ rfl
  simpa [add_zero'] using this
theorem RdB.atS (h : RdB w B (some ad) t) (i : Nat) (hi : i + 1 < t.length) : w.cell? { block := ad.block, off := ad.off + (i + 1) } = some (.int .u8 (t[i + 1].toNat : Int)) := by
  obtain ⟨ad', e, _, hc⟩ := h (by omega)
  injection e with e
  subst e
  have := hc (i + 1) hi 0 _ rfl
  rw [add_zero', Nat.mul_one] at this
  simpa [Addr.add] using this
end

theorem take8L {t : List UInt8} (h : 8 ≤ t.length) : t.take 8 = [t[0]'(by omega), t[1]'(by omega), t[2]'(by omega), t[3]'(by omega), t[4]'(by omega), t[5]'(by omega), t[6]'(by omega), t[7]'(by omega)] := by
  match t, h with
  | a0 :: a1 :: a2 :: a3 :: a4 :: a5 :: a6 :: a7 :: r, _ => simp

set_option maxHeartbeats 8000000 in
set_option maxRecDepth 100000 in
theorem word_any (A : Option Addr) (n c B : Nat) (t : List UInt8) (w : World) (hn : n = t.length) (h8 : 8 ≤ n) (h : RdB w B A t) :
    Calls Tryd.prog 80 #[.slice A n c] w fun e w' => e = .returned (.int .u64 ((Lib.leNat (t.take 8) : Nat) : Int)) ∧ ∃ q, w' = w.drewN q := by
  have N := Lib.hid hn
  have hl : 8 ≤ t.length := by omega
  obtain ⟨ad, rfl, _⟩ := h (by omega)
  clear hn
  obtain ⟨x0, hx0⟩ : ∃ x, t[0]'(by omega) = x := ⟨_, rfl⟩
  have c0 := h.at0 (by omega)
  rw [hx0] at c0
  have l0 : x0.toNat < 256 := x0.toNat_lt
  obtain ⟨x1, hx1⟩ : ∃ x, t[1]'(by omega) = x := ⟨_, rfl⟩
  have c1 := h.atS 0 (by omega)
  simp only [Nat.reduceAdd] at c1
  rw [hx1] at c1
  have l1 : x1.toNat < 256 := x1.toNat_lt
  obtain ⟨x2, hx2⟩ : ∃ x, t[2]'(by omega) = x := ⟨_, rfl⟩
  have c2 := h.atS 1 (by omega)
  simp only [Nat.reduceAdd] at c2
  rw [hx2] at c2
  have l2 : x2.toNat < 256 := x2.toNat_lt
  obtain ⟨x3, hx3⟩ : ∃ x, t[3]'(by omega) = x := ⟨_, rfl⟩
  have c3 := h.atS 2 (by omega)
  simp only [Nat.reduceAdd] at c3
  rw [hx3] at c3
  have l3 : x3.toNat < 256 := x3.toNat_lt
  obtain ⟨x4, hx4⟩ : ∃ x, t[4]'(by omega) = x := ⟨_, rfl⟩
  have c4 := h.atS 3 (by omega)
  simp only [Nat.reduceAdd] at c4
  rw [hx4] at c4
  have l4 : x4.toNat < 256 := x4.toNat_lt
  obtain ⟨x5, hx5⟩ : ∃ x, t[5]'(by omega) = x := ⟨_, rfl⟩
  have c5 := h.atS 4 (by omega)
  simp only [Nat.reduceAdd] at c5
  rw [hx5] at c5
  have l5 : x5.toNat < 256 := x5.toNat_lt
  obtain ⟨x6, hx6⟩ : ∃ x, t[6]'(by omega) = x := ⟨_, rfl⟩
  have c6 := h.atS 5 (by omega)
  simp only [Nat.reduceAdd] at c6
  rw [hx6] at c6
  have l6 : x6.toNat < 256 := x6.toNat_lt
  obtain ⟨x7, hx7⟩ : ∃ x, t[7]'(by omega) = x := ⟨_, rfl⟩
  have c7 := h.atS 6 (by omega)
  simp only [Nat.reduceAdd] at c7
  rw [hx7] at c7
  have l7 : x7.toNat < 256 := x7.toNat_lt
  have ht : t.take 8 = [x0, x1, x2, x3, x4, x5, x6, x7] := by
    rw [take8L hl, hx0, hx1, hx2, hx3, hx4, hx5, hx6, hx7]
  rw [ht]
  have hv : ((Lib.leNat [x0, x1, x2, x3, x4, x5, x6, x7] : Nat) : Int) = (x0.toNat : Int) + (x1.toNat : Int) * 256 + (x2.toNat : Int) * 65536 + (x3.toNat : Int) * 16777216 + (x4.toNat : Int) * 4294967296 + (x5.toNat : Int) * 1099511627776 + (x6.toNat : Int) * 281474976710656 + (x7.toNat : Int) * 72057594037927936 := by
    simp only [Lib.leNat]
    push_cast
    omega
  have HV := Lib.hid hv
  clear hv ht hx0 hx1 hx2 hx3 hx4 hx5 hx6 hx7
  have q0 : (0 : Int) < (n : Int) := by omega
  have p0 : 0 < n := by omega
  have q1 : (1 : Int) < (n : Int) := by omega
  have p1 : 1 < n := by omega
  have q2 : (2 : Int) < (n : Int) := by omega
  have p2 : 2 < n := by omega
  have q3 : (3 : Int) < (n : Int) := by omega
  have p3 : 3 < n := by omega
  have q4 : (4 : Int) < (n : Int) := by omega
  have p4 : 4 < n := by omega
  have q5 : (5 : Int) < (n : Int) := by omega
  have p5 : 5 < n := by omega
  have q6 : (6 : Int) < (n : Int) := by omega
  have p6 : 6 < n := by omega
  have q7 : (7 : Int) < (n : Int) := by omega
  have p7 : 7 < n := by omega
  go_enter Tryd.func80, Tryd.ntmps80
  go_wp2_with (fail)
  go_quiet (fail)
  go_wp2_with (fail)
  go_ret
  refine ⟨?_, _, rfl⟩
  simp (disch := omega) only [u64_wrap_id, u64_or8, u64_or16, u64_or24, u64_or32, u64_or40, u64_or48, u64_or56]
  rw [HV.out]
  rfl
end Go.Proofs.YtclfplpggmefjaaDoor
