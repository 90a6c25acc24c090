/- The walk of the known case of layer 6: it answers true. -/
import Derived.Test.YtclfplpggmefjaaDiff
import Derived.Test.YtclfplpggmefjaaInvert
import Derived.Test.YtclfplpggmefjaaBase2
namespace Go.Proofs.Ytclfplpggmefjaa
open Go.RowKit
set_option linter.unusedVariables false
set_option linter.unusedSimpArgs false

set_option maxHeartbeats 400000 in
theorem knownVal_any (i : Int) (w : World) :
    Calls Try.prog 27 #[.int .i64 i] w fun e w' => e = .returned (.agg #[.int .u8 2, .int .i64 i, .int .u64 0, .string ⟨#[]⟩]) ∧ Below w.heap.size w w' := by
  go_enter Try.func27, Try.ntmps27
  go_wp2
  refine bodyPost_ret (v := .agg #[.int .u8 2, .int .i64 i, .int .u64 0, .string ⟨#[]⟩]) (by simp [results, Try.results27, go_sem]) rfl ⟨rfl, ?_⟩
  exact (Below.refl _ _).alloc (Nat.le_refl _) _

def vI (i : Int) : V := ⟨2, i, 0, ⟨#[]⟩⟩
def kA : List At := [⟨1, vI 2⟩, ⟨3, vI 4⟩]
def kB : List At := [⟨3, vI 5⟩]
def kP : List Ch := [⟨1, true, V.zero⟩, ⟨3, false, vI 5⟩]
theorem k1 : decide (diffP kA kB = kP) = true := by decide +kernel
theorem k2 : decide (applyP (diffP kA kB) kA = kB) = true := by decide +kernel
theorem k3 : decide (applyP (invertP kA (diffP kA kB)) kB = kA) = true := by decide +kernel
theorem k4 : riseA kA = true := by decide +kernel
theorem k5 : (diffP kA kB).length ≤ 10 := by decide +kernel
theorem k6 : (applyP (diffP kA kB) kA).length ≤ 10 := by decide +kernel
theorem k7 : (invertP kA (diffP kA kB)).length ≤ 10 := by decide +kernel
theorem k8 : (applyP (invertP kA (diffP kA kB)) kB).length ≤ 10 := by decide +kernel

set_option maxRecDepth 100000 in
set_option maxHeartbeats 1000000 in
theorem known_any (w : World) : Calls Try.prog 11 #[] w fun e w' => e = .returned (.bool true) ∧ Below w.heap.size w w' := by
  go_enter Try.func11, Try.ntmps11
  go_wp2_with (go_at_call 27; refine Hid.out ?_)
  refine Lib.hid ?_
  refine (knownVal_any _ _).mono ?_
  rintro e w1 ⟨rfl, hx⟩
  go_wp2_with (go_at_call 27; refine Hid.out ?_)
  refine Lib.hid ?_
  refine (knownVal_any _ _).mono ?_
  rintro e w2 ⟨rfl, y⟩
  replace hx := ext_trans hx y
  clear y
  go_wp2_with (go_at_call 27; refine Hid.out ?_)
  refine Lib.hid ?_
  have ra : RdAt _ _ _ kA := Rd.new At.enc_len w2 46 kA (cs := #[.int .i64 1, .int .u8 2, .int .i64 2, .int .u64 0, .string ⟨#[]⟩, .int .i64 3, .int .u8 2, .int .i64 4, .int .u64 0, .string ⟨#[]⟩]) rfl rfl
  replace hx := ext_trans hx (ext_alloc w2 (.cells #[.int .i64 1, .int .u8 2, .int .i64 2, .int .u64 0, .string ⟨#[]⟩, .int .i64 3, .int .u8 2, .int .i64 4, .int .u64 0, .string ⟨#[]⟩] 46))
  refine (knownVal_any _ _).mono ?_
  rintro e w3 ⟨rfl, y⟩
  replace ra := ra.ext y
  replace hx := ext_trans hx y
  clear y
  go_wp2_with (go_at_call 15; refine Hid.out ?_)
  refine Lib.hid ?_
  have rb : RdAt _ _ _ kB := Rd.new At.enc_len w3 46 kB (cs := #[.int .i64 3, .int .u8 2, .int .i64 5, .int .u64 0, .string ⟨#[]⟩]) rfl rfl
  replace hx := ext_trans hx (ext_alloc w3 (.cells #[.int .i64 3, .int .u8 2, .int .i64 5, .int .u64 0, .string ⟨#[]⟩] 46))
  replace ra := ra.ext (ext_alloc w3 (.cells #[.int .i64 3, .int .u8 2, .int .i64 5, .int .u64 0, .string ⟨#[]⟩] 46))
  refine (diff_any _ _ 2 1 2 _ kA kB _ rfl rfl ra rb (by omega) (by omega) (by omega) (by simp [maxLen])).mono ?_
  rintro e w4 ⟨A1, c1, rfl, ho, y⟩
  have rp := ho.rd Ch.enc_len
  replace ra := ra.ext y
  replace rb := rb.ext y
  replace hx := ext_trans hx y
  obtain ⟨hle, hcm⟩ := ho.cap
  clear y ho
  have q1 := k1
  have q2 := k2
  have q3 := k3
  have q5 := k5
  have q7 := k7
  unfold maxLen at hcm
  generalize hpp : diffP kA kB = p at *
  have HPP := Lib.hid hpp
  have Q1 := Lib.hid q1
  have Q2 := Lib.hid q2
  have Q3 := Lib.hid q3
  clear hpp q1 q2 q3
  obtain ⟨n1, hn1⟩ : ∃ n, n = p.length := ⟨_, rfl⟩
  rw [← hn1] at q5 hle ⊢
  have N1 := Lib.hid hn1
  clear hn1
  go_wp2_with (go_at_call 27; refine Hid.out ?_)
  refine Lib.hid ?_
  refine (knownVal_any _ _).mono ?_
  rintro e w5 ⟨rfl, y⟩
  replace ra := ra.ext y
  replace rb := rb.ext y
  replace rp := rp.ext y
  replace hx := ext_trans hx y
  clear y
  go_wp2_with (go_at_call 16; refine Hid.out ?_)
  refine Lib.hid ?_
  have rw_ : RdCh _ _ _ kP := Rd.new Ch.enc_len w5 40 kP (cs := #[.int .i64 1, .bool true, .int .u8 0, .int .i64 0, .int .u64 0, .string ⟨#[]⟩, .int .i64 3, .bool false, .int .u8 2, .int .i64 5, .int .u64 0, .string ⟨#[]⟩]) rfl rfl
  have y := ext_alloc w5 (.cells #[.int .i64 1, .bool true, .int .u8 0, .int .i64 0, .int .u64 0, .string ⟨#[]⟩, .int .i64 3, .bool false, .int .u8 2, .int .i64 5, .int .u64 0, .string ⟨#[]⟩] 40)
  replace ra := ra.ext y
  replace rb := rb.ext y
  replace rp := rp.ext y
  replace hx := ext_trans hx y
  clear y
  refine (sameC_any _ _ n1 2 _ _ p kP _ N1.out rfl rp rw_ (by omega) (by omega)).mono ?_
  rintro e w6 ⟨rfl, d, rfl⟩
  rw [Q1.out]
  have y := ext_drew (w5.alloc (.cells #[.int .i64 1, .bool true, .int .u8 0, .int .i64 0, .int .u64 0, .string ⟨#[]⟩, .int .i64 3, .bool false, .int .u8 2, .int .i64 5, .int .u64 0, .string ⟨#[]⟩] 40)) d
  replace ra := ra.ext y
  replace rb := rb.ext y
  replace rp := rp.ext y
  replace hx := ext_trans hx y
  clear y rw_
  generalize World.drewN _ d = w6 at *
  go_wp2_with (go_at_call 13; refine Hid.out ?_)
  refine Lib.hid ?_
  refine (apply_any _ _ 2 n1 2 _ kA p _ rfl N1.out ra rp (by omega) (by omega) (by omega) (by simp [maxLen])).mono ?_
  rintro e w7 ⟨A2, c2, rfl, ho, y⟩
  have rs := ho.rd At.enc_len
  replace ra := ra.ext y
  replace rb := rb.ext y
  replace rp := rp.ext y
  replace hx := ext_trans hx y
  clear y ho
  have q6 : (applyP p kA).length ≤ 10 := by rw [← HPP.out]; exact k6
  generalize applyP p kA = s at *
  obtain ⟨n2, hn2⟩ : ∃ n, n = s.length := ⟨_, rfl⟩
  rw [← hn2] at q6 ⊢
  have N2 := Lib.hid hn2
  clear hn2
  go_wp2_with (go_at_call 12; refine Hid.out ?_)
  refine Lib.hid ?_
  refine (sameA_any _ _ n2 1 _ _ s kB _ N2.out rfl rs rb (by omega) (by omega)).mono ?_
  rintro e w8 ⟨rfl, d, rfl⟩
  rw [Q2.out]
  have y := ext_drew w7 d
  replace ra := ra.ext y
  replace rb := rb.ext y
  replace rp := rp.ext y
  replace hx := ext_trans hx y
  clear y rs
  generalize w7.drewN d = w8 at *
  go_wp2_with (go_at_call 14; refine Hid.out ?_)
  refine Lib.hid ?_
  refine (invert_any _ _ 2 n1 _ _ kA p _ k4 rfl N1.out ra rp (by omega) (by omega)).mono ?_
  rintro e w9 ⟨A3, c3, rfl, ho, y⟩
  have ri := ho.rd Ch.enc_len
  replace ra := ra.ext y
  replace rb := rb.ext y
  replace hx := ext_trans hx y
  clear y ho
  have q8 : (applyP (invertP kA p) kB).length ≤ 10 := by rw [← HPP.out]; exact k8
  generalize invertP kA p = v at *
  obtain ⟨n3, hn3⟩ : ∃ n, n = v.length := ⟨_, rfl⟩
  rw [← hn3] at q7 ⊢
  have N3 := Lib.hid hn3
  clear hn3
  go_wp2_with (go_at_call 13; refine Hid.out ?_)
  refine Lib.hid ?_
  refine (apply_any _ _ 1 n3 1 _ kB v _ rfl N3.out rb ri (by omega) (by omega) (by omega) (by simp [maxLen])).mono ?_
  rintro e w10 ⟨A4, c4, rfl, ho, y⟩
  have rs := ho.rd At.enc_len
  replace ra := ra.ext y
  replace hx := ext_trans hx y
  clear y ho
  generalize applyP v kB = s at *
  obtain ⟨n4, hn4⟩ : ∃ n, n = s.length := ⟨_, rfl⟩
  rw [← hn4] at q8 ⊢
  have N4 := Lib.hid hn4
  clear hn4
  go_wp2_with (go_at_call 12; refine Hid.out ?_)
  refine Lib.hid ?_
  refine (sameA_any _ _ n4 2 _ _ s kA _ N4.out rfl rs ra (by omega) (by omega)).mono ?_
  rintro e w11 ⟨rfl, d, rfl⟩
  rw [Q3.out]
  replace hx := ext_trans hx (ext_drew w10 d)
  go_wp2_with (fail)
  go_ret
  exact ⟨rfl, hx⟩
end Go.Proofs.Ytclfplpggmefjaa
