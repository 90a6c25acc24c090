/- The walk of the known case of layer 5: it answers true. -/
import Derived.Test.YtclfplpggmefjaaAttrsOps
namespace Go.Proofs.Ytclfplpggmefjaa
open Go.RowKit
set_option linter.unusedVariables false
set_option linter.unusedSimpArgs false

def v1 : V := ⟨2, 1, 0, ⟨#[]⟩⟩
def kI : List At := [⟨1, v1⟩, ⟨5, v1⟩]
def kL : List At := [⟨1, v1⟩, ⟨3, v1⟩, ⟨5, v1⟩]
theorem kL1 : withP kI ⟨3, v1⟩ = kL := by decide +kernel
theorem kL2 : riseA kI = true := by decide +kernel
theorem kL3 : riseA kL = true := by decide +kernel
theorem kL4 : getA kL 3 = some v1 := by decide +kernel
theorem kL5 : decide (withoutP kL 1 = kL.drop 1) = true := by decide +kernel

theorem up_any {a b c : World} (h : Below a.heap.size a b) (h' : Below b.heap.size b c) : Below a.heap.size a c := ext_trans h h'
theorem cell_keep {w w' : World} {b j : Nat} (h : w'.heap[b]? = w.heap[b]?) : w'.cell? ⟨b, j, none⟩ = w.cell? ⟨b, j, none⟩ := by simp [World.cell?, h]

set_option maxRecDepth 100000 in
set_option maxHeartbeats 1000000 in
theorem known05_any (w : World) : Calls Try.prog 21 #[] w fun e w' => e = .returned (.bool true) ∧ Below w.heap.size w w' := by
  go_enter Try.func21, Try.ntmps21
  go_wp2_with (go_at_call 22; refine Hid.out ?_)
  refine Lib.hid ?_
  have hb0 := heap_alloc_new w (.cells #[.int .u8 2, .int .i64 1, .int .u64 0, .string ⟨#[]⟩] 38)
  have hx0 := ext_alloc w (.cells #[.int .u8 2, .int .i64 1, .int .u64 0, .string ⟨#[]⟩] 38)
  have hz0 := size_alloc' w (.cells #[.int .u8 2, .int .i64 1, .int .u64 0, .string ⟨#[]⟩] 38)
  generalize World.alloc w _ = w0 at *
  generalize hW : World.alloc _ _ = w1
  have y : Below w0.heap.size w0 w1 := by rw [← hW]; exact ext_alloc _ _
  have hx := ext_trans hx0 y
  have hb := (y.block w.heap.size (by omega)).trans hb0
  have hs := blk_lt hb
  have ri : RdAt w1 w1.heap.size (some ⟨w.heap.size + 1, 0, none⟩) kI := by
    rw [← hW]
    exact Rd.new At.enc_len _ _ kI rfl hz0
  clear hb0 hx0 hz0 y
  clear hW
  refine (with_any _ 2 2 kI 3 2 1 0 ⟨#[]⟩ w1 rfl ri (by omega)).mono ?_
  rintro e w2 ⟨r, hr, hrl, A2, c2, rfl, ho, y⟩
  have e : r = kL := (hr kL2).trans kL1
  clear hr hrl ri
  subst e
  have e3 : kL.length = 3 := rfl
  rw [e3] at ho ⊢
  have hcap := ho.cap
  rw [e3] at hcap
  have r2 := ho.rd At.enc_len
  clear ho e3
  replace hx := ext_trans hx y
  replace hb := (y.block _ hs).trans hb
  replace hs := Nat.lt_of_lt_of_le hs y.size
  clear y
  go_wp2_with (go_at_call 23; refine Hid.out ?_)
  refine Lib.hid ?_
  refine (get_any A2 3 c2 kL 3 w2 rfl r2 (by omega)).mono ?_
  rintro e w3 ⟨v, b, rfl, ⟨-, -, hg⟩, y⟩
  replace hg := hg kL3
  rw [kL4] at hg
  cases b with
  | false => cases hg
  | true =>
  injection hg with hg
  obtain ⟨vk, vn, vf, vs⟩ := v
  have hg' : (⟨2, 1, 0, ⟨#[]⟩⟩ : V) = ⟨vk, vn, vf, vs⟩ := hg
  injection hg' with g1 g2 g3 g4
  subst g1 g2 g3 g4
  clear hg
  replace hx := ext_trans hx y
  replace hb := (y.block _ hs).trans hb
  replace hs := Nat.lt_of_lt_of_le hs y.size
  replace r2 := r2.ext y
  clear y
  go_wp2_with (fail)
  have q0 := heap_alloc_new w3 (.cells #[.int .u8 2, .int .i64 1, .int .u64 0, .string ⟨#[]⟩] 38)
  have y := ext_alloc w3 (.cells #[.int .u8 2, .int .i64 1, .int .u64 0, .string ⟨#[]⟩] 38)
  have hs3 := size_alloc' w3 (.cells #[.int .u8 2, .int .i64 1, .int .u64 0, .string ⟨#[]⟩] 38)
  generalize World.alloc w3 _ = w4 at *
  replace hx := ext_trans hx y
  replace hb := (y.block _ hs).trans hb
  replace hs := Nat.lt_of_lt_of_le hs y.size
  replace r2 := r2.ext y
  have hs4 : w3.heap.size < w4.heap.size := by omega
  clear y hs3
  obtain ⟨ad, a, rfl, had, _, hl1, hc1⟩ := r2.el (i := 1) (by decide)
  have e : a = ⟨3, v1⟩ := by injection hl1 with h; exact h.symm
  subst e
  obtain ⟨k0', -⟩ := at_cells hc1
  have k0 : w4.cell? ⟨ad.block, ad.off + 5, none⟩ = some (.int .i64 3) := k0'
  clear k0'
  obtain ⟨p0, p1, p2, p3⟩ := box_v hb
  obtain ⟨o0, o1, o2, o3⟩ := box_v q0
  have HB := Lib.hid hb
  have HQ := Lib.hid q0
  clear hb q0 hl1 hc1
  have hm := hcap.2
  unfold maxLen at hm
  have h3 := hcap.1
  have e2 : (withoutP kL 1).length = 2 := by decide +kernel
  have E2 := Lib.hid e2
  have r5 : RdAt w4 w4.heap.size (some ⟨ad.block, ad.off + 5, none⟩) (kL.drop 1) := by
    have t := r2.cut (k := 1) (cap := c2) (by decide) hcap.1
    rw [if_neg (by omega)] at t
    exact t
  clear e2 hcap
  go_region_held3 (fun w' => w'.cell? ⟨ad.block, ad.off + 5, none⟩ = some (.int .i64 3) ∧ w'.cell? ⟨w.heap.size, 0, none⟩ = some (.int .u8 2) ∧ w'.cell? ⟨w.heap.size, 1, none⟩ = some (.int .i64 1) ∧ w'.cell? ⟨w.heap.size, 2, none⟩ = some (.int .u64 0) ∧ w'.cell? ⟨w.heap.size, 3, none⟩ = some (.string ⟨#[]⟩) ∧ w'.cell? ⟨w3.heap.size, 0, none⟩ = some (.int .u8 2) ∧ w'.cell? ⟨w3.heap.size, 1, none⟩ = some (.int .i64 1) ∧ w'.cell? ⟨w3.heap.size, 2, none⟩ = some (.int .u64 0) ∧ w'.cell? ⟨w3.heap.size, 3, none⟩ = some (.string ⟨#[]⟩))
    (go_keep) (first
      | (go_at_call 25
         refine (without_any (some ad) 3 c2 kL 1 w4.drew rfl (r2.ext (up_drew (Below.refl _ _))) (by omega)).mono ?_
         rintro e w5 ⟨A5, c5, rfl, ho5, y5⟩
         rw [E2.out] at ho5 ⊢
         have k5 : w5.cell? ⟨ad.block, ad.off + 5, none⟩ = some (.int .i64 3) := (cell_keep (y5.block _ had)).trans k0
         obtain ⟨u0, u1, u2, u3⟩ := box_v ((y5.block _ hs).trans HB.out)
         obtain ⟨t0, t1, t2, t3⟩ := box_v ((y5.block _ hs4).trans HQ.out))
      | (go_at_call 24
         refine (attrsSame_any _ _ 2 2 _ _ (withoutP kL 1) (kL.drop 1) w5 E2.out.symm rfl (ho5.rd At.enc_len) (r5.ext (up_any (up_drew (Below.refl _ _)) y5)) (by omega) (by omega)).mono ?_
         rintro e w6 ⟨rfl, d, rfl⟩
         rw [kL5]))
  go_wp2_with (fail)
  go_ret
  exact ⟨rfl, (ext_trans hx (up_any (up_drew (Below.refl _ _)) y5)).trans (below_drewN (Below.refl _ _) _)⟩
end Go.Proofs.Ytclfplpggmefjaa
