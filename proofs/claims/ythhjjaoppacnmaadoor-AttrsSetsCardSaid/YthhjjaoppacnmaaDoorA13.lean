/- Merged texts: PartR5, Great05S, Known05, Get05, LawKit, RefSet. -/
import Derived.Test.YthhjjaoppacnmaaDoorA12
import Derived.Test.YthhjjaoppacnmaaDoorA2
import Derived.Test.YthhjjaoppacnmaaDoorA8
import Derived.Test.YthhjjaoppacnmaaDoorA7
import Derived.BigQuiet
import Derived.Deep.QuietTactic
import Derived.Test.YthhjjaoppacnmaaDoorA10
namespace Go.Proofs.YthhjjaoppacnmaaDoor
open Go.RowKit
set_option linter.unusedVariables false
set_option linter.unusedSimpArgs false

set_option maxRecDepth 100000 in
set_option maxHeartbeats 1600000 in
theorem partR5_any (A B : Option Addr) (n c n2 c2 : Nat) (l : List Ky) (b : Bool) (p : List At) (w : World) (hn : n = l.length) (h : RdKy w w.heap.size A l) (hb : n ≤ 140737488355328) (hn2 : n2 = p.length) (h2 : RdAt w w.heap.size B p) (hb2 : n2 ≤ 100000000) :
    Calls Tryd.prog 22 #[.slice A n c, .slice B n2 c2, .bool b] w (NewAt (partS l b p) w) := by
  have N := Lib.hid hn
  have N2 := Lib.hid hn2
  generalize hR : partS l b p = R
  have HR := Lib.hid hR
  clear hn hn2 hR
  go_enter Tryd.func22, Tryd.ntmps22
  go_wp2_with (fail)
  go_loopg [7, 8] n2 (fun g ov kv wr => ∃ (m : Nat) (o : List At), m ≤ n2 ∧ g = n2 - m ∧ kv = .int .i64 m ∧ OwAt wr w.heap.size ov o ∧ o.length ≤ m ∧
    Below w.heap.size w wr ∧ Hid (o ++ partS l b (p.drop m) = R))
  case atStart => exact ⟨0, [], by omega, rfl, rfl, Ow.nil _ _, by simp, Below.refl _ _, Lib.hid (by rw [← HR.out]; simp)⟩
  case round =>
    obtain ⟨m, o, hm, hg, rfl, hown, hol, hbw, HI⟩ := hrel
    have HG := Lib.hid hg
    clear hg HR
    by_cases hlt : m < n2
    · have hkp : m < p.length := by have := N2.out; omega
      obtain ⟨ad, x, rfl, had, hd1, hx1, hc0⟩ := (h2.below hbw (Nat.le_refl _)).el hkp
      obtain ⟨x1, x2, x3, x4, x5⟩ := x
      have HI' : Hid (o ++ ((if keepK l b x1 = true then [⟨x1, ⟨x2, x3, x4, x5⟩⟩] else []) ++ partS l b (p.drop (m + 1))) = R) := Lib.hid (by
        rw [← HI.out, hd1]
        unfold partS
        rw [List.filter_cons]
        by_cases hk : keepK l b x1 = true <;> simp [hk])
      obtain ⟨r0, -⟩ := at_cells hc0
      have HC0 := Lib.hid hc0
      clear HI hd1 hx1 hc0
      have hw2 : IntKind.i64.wrap ((m:Int) + 1) = (m : Int) + 1 := IntWalk.i64_in _ (by omega)
      go_wp2_with (go_at_call 47; refine Hid.out ?_)
      refine Lib.hid ?_
      refine (findR_any A n c l x1 wr N.out ((h.below hbw (Nat.le_refl _)).more hbw.size) hb).mono ?_
      rintro e w1 ⟨k1, k2, k3, k4, k5, k6, ok, rfl, hk, hb, y1⟩
      have y2 := ext_alloc w1 (.cells #[.int .i64 k1, .bool k2, .int .u8 k3, .bool k4, .bool k5, .int .i64 k6] 62)
      have hown1 := (hown.below y1 (Nat.le_refl _)).alloc (.cells #[.int .i64 k1, .bool k2, .int .u8 k3, .bool k4, .bool k5, .int .i64 k6] 62)
      have yy := ext_trans hbw (ext_trans y1 y2)
      have hc1 := HC0.out.keep (w' := w1.alloc (.cells #[.int .i64 k1, .bool k2, .int .u8 k3, .bool k4, .bool k5, .int .i64 k6] 62)) (fun q hq => (ext_trans y1 y2).cell (by rw [hq, add_block]; exact Nat.lt_of_lt_of_le had hbw.size))
      obtain ⟨r0, r1, r2, r3, r4⟩ := at_cells hc1
      have HB := Lib.hid hb
      have HK := Lib.hid hk
      have HYY := Lib.hid yy
      clear hk hb hc1 hown
      have skip : keepK l b x1 = false → Hid (o ++ partS l b (p.drop (m + 1)) = R) := fun hk => Lib.hid (by rw [← HI'.out, if_neg (by rw [hk]; simp), List.nil_append])
      cases ok with
      | false =>
        have HE : Hid (o ++ partS l b (p.drop (m + 1)) = R) := skip (by
          have h := HB.out
          unfold keepK
          cases hq : findK l x1 with
          | none => rfl
          | some k => rw [hq] at h; cases h)
        clear skip
        go_wp2_with (fail)
        go_roundg (n2 - (m + 1))
        case measure => have := HG.out; omega
        case rel => exact ⟨m + 1, o, by omega, rfl, by go_num, hown1, by omega, yy, HE⟩
      | true =>
        have hke : keepK l b x1 = (k2 == b) := by
          have h := HB.out
          have h2 := HK.out
          unfold keepK
          cases hq : findK l x1 with
          | none => rw [hq] at h; cases h
          | some k => rw [hq] at h2; simp at h2; subst h2; rfl
        by_cases hkb : k2 = b
        · subst hkb
          have HE : Hid (o ++ ([⟨x1, ⟨x2, x3, x4, x5⟩⟩] ++ partS l k2 (p.drop (m + 1))) = R) := Lib.hid (by rw [← HI'.out, if_pos (by rw [hke]; simp)])
          clear skip hke
          go_wp2_with (first
            | (at_builtin; refine app_at (m := [⟨x1, ⟨x2, x3, x4, x5⟩⟩]) rfl (.tmp 34) (.tmp 39) rfl rfl (by first | exact (hown1.drewN _).alloc _ | exact hown1.alloc _) _ _ 1 1 rfl rfl (by first | exact rd_one (enc := At.enc) _ _ _ rfl | exact rd_one_at (enc := At.enc) _ _ _ rfl (size_alloc' _ _)) (by simp only [List.length_singleton]; omega) (Nat.le_trans HYY.out.size (le_alloc _ _)) ?_; intro v' w' hown' hgr hv'))
          obtain ⟨s1, s2, s3⟩ := app_step (nq := 0) hown1 yy (Nat.le_refl _) hgr hv'
          go_roundg (n2 - (m + 1))
          case measure => have := HG.out; omega
          case rel => exact ⟨m + 1, _, by omega, rfl, by go_num, hown', by simp; omega, s1, Lib.hid (by rw [← HE.out, List.append_assoc])⟩
        · have HE : Hid (o ++ partS l b (p.drop (m + 1)) = R) := skip (by rw [hke]; simp [hkb])
          have hkq : (k2 == b) = false := by simp [hkb]
          clear skip hke
          go_wp2_with (fail)
          go_roundg (n2 - (m + 1))
          case measure => have := HG.out; omega
          case rel => exact ⟨m + 1, o, by omega, rfl, by go_num, hown1, by omega, yy, HE⟩
    · have e : o = R := by rw [← HI.out, List.drop_eq_nil_of_le (by have := N2.out; omega)]; simp [partS]
      have HE := Lib.hid e
      clear e
      go_wp2_with (fail)
      rw [HE.out] at hown
      obtain ⟨A', c', rfl, _, _⟩ := hown.form
      go_ret
      exact ⟨A', c', rfl, hown, hbw⟩
end Go.Proofs.YthhjjaoppacnmaaDoor
namespace Go.Proofs.YthhjjaoppacnmaaDoor
open Go.RowKit
set_option linter.unusedVariables false
set_option linter.unusedSimpArgs false

set_option maxRecDepth 100000 in
set_option maxHeartbeats 800000 in
theorem great05s_any (A : Option Addr) (n c : Nat) (l : List At) (w : World) (hn : n = l.length) (h : RdAt w w.heap.size A l) (hb : n ≤ 9223372036854775807) :
    Calls Tryd.prog 5 #[.slice A n c] w fun e w' => ∃ b : Bool, e = .returned (.bool b) ∧ (b = false → n ≤ 100 ∧ ∀ a ∈ l, a.v.s.size ≤ 200) ∧ w = w' := by
  have N := Lib.hid hn
  clear hn
  go_enter Tryd.func5, Tryd.ntmps5
  go_wp2_with (fail)
  go_loopg [6] n (fun g iv wr => ∃ (i : Nat), i ≤ n ∧ g = n - i ∧ iv = .int .i64 i ∧ w = wr ∧ Hid (∀ j a, j < i → l[j]? = some a → a.v.s.size ≤ 200))
  case atStart => exact ⟨0, by omega, rfl, rfl, rfl, Lib.hid (fun j a h => by omega)⟩
  case round =>
    obtain ⟨i, hi, hg, rfl, rfl, HI⟩ := hrel
    have HG := Lib.hid hg
    clear hg
    by_cases hlt : i < n
    · obtain ⟨ad, a, rfl, _, _, hx1, hc1⟩ := h.el (i := i) (by have := N.out; omega)
      have HX := Lib.hid hx1
      obtain ⟨x1, x2, x3, x4, x5⟩ := a
      obtain ⟨r0, r1, r2, r3, r4⟩ := at_cells hc1
      have HC := Lib.hid hc1
      clear hc1 hx1
      by_cases hs : (200 : Int) < x5.size
      · go_wp2_with (fail)
        go_ret
        exact ⟨true, rfl, fun h => (by cases h), rfl⟩
      · go_wp2_with (fail)
        go_roundg (n - (i + 1))
        case measure => have := HG.out; omega
        case rel =>
          refine ⟨i + 1, by omega, rfl, by go_num, rfl, Lib.hid (fun j a hj ha => ?_)⟩
          by_cases hji : j = i
          · subst hji
            rw [HX.out] at ha
            injection ha with ha
            subst ha
            show x5.size ≤ 200
            omega
          · exact HI.out j a (by omega) ha
    · go_wp2_with (fail)
      go_ret
      refine ⟨_, rfl, fun h => ⟨(by simp at h; omega), fun a ha => ?_⟩, rfl⟩
      obtain ⟨j, hj, he⟩ := List.getElem_of_mem ha
      exact HI.out j a (by have := N.out; omega) (by rw [List.getElem?_eq_getElem hj, he])
end Go.Proofs.YthhjjaoppacnmaaDoor
namespace Go.Proofs.YthhjjaoppacnmaaDoor
open Go.RowKit
set_option linter.unusedVariables false
set_option linter.unusedSimpArgs false

def v1 : V := ⟨2, 1, 0, ⟨#[]⟩⟩
def kI : List At := [⟨1, v1⟩, ⟨5, v1⟩]
def kL : List At := [⟨1, v1⟩, ⟨3, v1⟩, ⟨5, v1⟩]
theorem kL1 : withP kI ⟨3, v1⟩ = kL := by decide +kernel
theorem kL2 : riseA kI = true := by decide +kernel
theorem kL3 : riseA kL = true := by decide +kernel
theorem kL4 : getA kL 3 = some v1 := by decide +kernel
theorem kL5 : decide (withoutP kL 1 = kL.drop 1) = true := by decide +kernel

theorem up_any {a b c : World} (h : Below a.heap.size a b) (h' : Below b.heap.size b c) : Below a.heap.size a c := ext_trans h h'
theorem cell_keep {w w' : World} {b j : Nat} (h : w'.heap[b]? = w.heap[b]?) : w'.cell? ⟨b, j, none⟩ = w.cell? ⟨b, j, none⟩ := by simp [World.cell?, h]

set_option maxRecDepth 100000 in
set_option maxHeartbeats 1000000 in
theorem known05_any (w : World) : Calls Tryd.prog 6 #[] w fun e w' => e = .returned (.bool true) ∧ Below w.heap.size w w' := by
  go_enter Tryd.func6, Tryd.ntmps6
  go_wp2_with (go_at_call 16; refine Hid.out ?_)
  refine Lib.hid ?_
  have hb0 := heap_alloc_new w (.cells #[.int .u8 2, .int .i64 1, .int .u64 0, .string ⟨#[]⟩] 26)
  have hx0 := ext_alloc w (.cells #[.int .u8 2, .int .i64 1, .int .u64 0, .string ⟨#[]⟩] 26)
  have hz0 := size_alloc' w (.cells #[.int .u8 2, .int .i64 1, .int .u64 0, .string ⟨#[]⟩] 26)
  generalize World.alloc w _ = w0 at *
  generalize hW : World.alloc _ _ = w1
  have y : Below w0.heap.size w0 w1 := by rw [← hW]; exact ext_alloc _ _
  have hx := ext_trans hx0 y
  have hb := (y.block w.heap.size (by omega)).trans hb0
  have hs := blk_lt hb
  have ri : RdAt w1 w1.heap.size (some ⟨w.heap.size + 1, 0, none⟩) kI := by
    rw [← hW]
    exact Rd.new At.enc_len _ _ kI rfl hz0
  clear hb0 hx0 hz0 y
  clear hW
  refine (with_any _ 2 2 kI 3 2 1 0 ⟨#[]⟩ w1 rfl ri (by omega)).mono ?_
  rintro e w2 ⟨r, hr, hrl, A2, c2, rfl, ho, y⟩
  have e : r = kL := (hr kL2).trans kL1
  clear hr hrl ri
  subst e
  have e3 : kL.length = 3 := rfl
  rw [e3] at ho ⊢
  have hcap := ho.cap
  rw [e3] at hcap
  have r2 := ho.rd At.enc_len
  clear ho e3
  replace hx := ext_trans hx y
  replace hb := (y.block _ hs).trans hb
  replace hs := Nat.lt_of_lt_of_le hs y.size
  clear y
  go_wp2_with (go_at_call 15; refine Hid.out ?_)
  refine Lib.hid ?_
  refine (get_any A2 3 c2 kL 3 w2 rfl r2 (by omega)).mono ?_
  rintro e w3 ⟨v, b, rfl, ⟨-, -, hg⟩, y⟩
  replace hg := hg kL3
  rw [kL4] at hg
  cases b with
  | false => cases hg
  | true =>
  injection hg with hg
  obtain ⟨vk, vn, vf, vs⟩ := v
  have hg' : (⟨2, 1, 0, ⟨#[]⟩⟩ : V) = ⟨vk, vn, vf, vs⟩ := hg
  injection hg' with g1 g2 g3 g4
  subst g1 g2 g3 g4
  clear hg
  replace hx := ext_trans hx y
  replace hb := (y.block _ hs).trans hb
  replace hs := Nat.lt_of_lt_of_le hs y.size
  replace r2 := r2.ext y
  clear y
  go_wp2_with (fail)
  have q0 := heap_alloc_new w3 (.cells #[.int .u8 2, .int .i64 1, .int .u64 0, .string ⟨#[]⟩] 26)
  have y := ext_alloc w3 (.cells #[.int .u8 2, .int .i64 1, .int .u64 0, .string ⟨#[]⟩] 26)
  have hs3 := size_alloc' w3 (.cells #[.int .u8 2, .int .i64 1, .int .u64 0, .string ⟨#[]⟩] 26)
  generalize World.alloc w3 _ = w4 at *
  replace hx := ext_trans hx y
  replace hb := (y.block _ hs).trans hb
  replace hs := Nat.lt_of_lt_of_le hs y.size
  replace r2 := r2.ext y
  have hs4 : w3.heap.size < w4.heap.size := by omega
  clear y hs3
  obtain ⟨ad, a, rfl, had, _, hl1, hc1⟩ := r2.el (i := 1) (by decide)
  have e : a = ⟨3, v1⟩ := by injection hl1 with h; exact h.symm
  subst e
  obtain ⟨k0', -⟩ := at_cells hc1
  have k0 : w4.cell? ⟨ad.block, ad.off + 5, none⟩ = some (.int .i64 3) := k0'
  clear k0'
  obtain ⟨p0, p1, p2, p3⟩ := box_v hb
  obtain ⟨o0, o1, o2, o3⟩ := box_v q0
  have HB := Lib.hid hb
  have HQ := Lib.hid q0
  clear hb q0 hl1 hc1
  have hm := hcap.2
  unfold maxLen at hm
  have h3 := hcap.1
  have e2 : (withoutP kL 1).length = 2 := by decide +kernel
  have E2 := Lib.hid e2
  have r5 : RdAt w4 w4.heap.size (some ⟨ad.block, ad.off + 5, none⟩) (kL.drop 1) := by
    have t := r2.cut (k := 1) (cap := c2) (by decide) hcap.1
    rw [if_neg (by omega)] at t
    exact t
  clear e2 hcap
  go_region_held3 (fun w' => w'.cell? ⟨ad.block, ad.off + 5, none⟩ = some (.int .i64 3) ∧ w'.cell? ⟨w.heap.size, 0, none⟩ = some (.int .u8 2) ∧ w'.cell? ⟨w.heap.size, 1, none⟩ = some (.int .i64 1) ∧ w'.cell? ⟨w.heap.size, 2, none⟩ = some (.int .u64 0) ∧ w'.cell? ⟨w.heap.size, 3, none⟩ = some (.string ⟨#[]⟩) ∧ w'.cell? ⟨w3.heap.size, 0, none⟩ = some (.int .u8 2) ∧ w'.cell? ⟨w3.heap.size, 1, none⟩ = some (.int .i64 1) ∧ w'.cell? ⟨w3.heap.size, 2, none⟩ = some (.int .u64 0) ∧ w'.cell? ⟨w3.heap.size, 3, none⟩ = some (.string ⟨#[]⟩))
    (go_keep) (first
      | (go_at_call 17
         refine (without_any (some ad) 3 c2 kL 1 w4.drew rfl (r2.ext (up_drew (Below.refl _ _))) (by omega)).mono ?_
         rintro e w5 ⟨A5, c5, rfl, ho5, y5⟩
         rw [E2.out] at ho5 ⊢
         have k5 : w5.cell? ⟨ad.block, ad.off + 5, none⟩ = some (.int .i64 3) := (cell_keep (y5.block _ had)).trans k0
         obtain ⟨u0, u1, u2, u3⟩ := box_v ((y5.block _ hs).trans HB.out)
         obtain ⟨t0, t1, t2, t3⟩ := box_v ((y5.block _ hs4).trans HQ.out))
      | (go_at_call 11
         refine (attrsSame_any _ _ 2 2 _ _ (withoutP kL 1) (kL.drop 1) w5 E2.out.symm rfl (ho5.rd At.enc_len) (r5.ext (up_any (up_drew (Below.refl _ _)) y5)) (by omega) (by omega)).mono ?_
         rintro e w6 ⟨rfl, d, rfl⟩
         rw [kL5]))
  go_wp2_with (fail)
  go_ret
  exact ⟨rfl, (ext_trans hx (up_any (up_drew (Below.refl _ _)) y5)).trans (below_drewN (Below.refl _ _) _)⟩
end Go.Proofs.YthhjjaoppacnmaaDoor
namespace Go.Proofs.YthhjjaoppacnmaaDoor
open Go.RowKit
set_option linter.unusedVariables false
set_option linter.unusedSimpArgs false

theorem getA_drop {l : List At} {m : Nat} {x : At} {k : Int} {R : Option V} (hd : l.drop m = x :: l.drop (m + 1)) (h : getA (l.drop m) k = R) (hx : x.key ≠ k) : getA (l.drop (m + 1)) k = R := by
  rw [hd] at h
  rw [← h]
  simp [getA, hx]
theorem getA_found {l : List At} {m : Nat} {x : At} {k : Int} {R : Option V} (hd : l.drop m = x :: l.drop (m + 1)) (h : getA (l.drop m) k = R) (hx : x.key = k) : R = some x.v := by
  rw [hd] at h
  rw [← h]
  simp [getA, hx]
theorem getA_end {l : List At} {m : Nat} {k : Int} {R : Option V} (hm : l.length ≤ m) (h : getA (l.drop m) k = R) : R = none := by
  rw [List.drop_eq_nil_of_le hm] at h
  rw [← h]
  rfl
/-- what the document's Get answers -/
def GetOut5 (l : List At) (key : Int) (w : World) (e : Ending) (w' : World) : Prop :=
  ∃ k n f s q, e = .returned (.tuple #[.agg #[.int .u8 k, .int .i64 n, .int .u64 f, .string s], .bool q]) ∧ (getA l key).getD V.zero = ⟨k, n, f, s⟩ ∧ (getA l key).isSome = q ∧ Below w.heap.size w w'
set_option maxRecDepth 100000 in
set_option maxHeartbeats 800000 in
theorem get05_any (A : Option Addr) (n c : Nat) (l : List At) (id : Int) (w : World) (hn : n = l.length) (h : RdAt w w.heap.size A l) (hb : n ≤ 140737488355328) :
    Calls Tryd.prog 19 #[.slice A n c, .int .i64 id] w (GetOut5 l id w) := by
  have N := Lib.hid hn
  generalize hR : getA l id = R
  have HR := Lib.hid hR
  clear hn hR
  unfold GetOut5
  rw [HR.out]
  have y0 := ext_alloc w (.cells #[.int .u8 0, .int .i64 0, .int .u64 0, .string ⟨#[]⟩] 26)
  have HB := Lib.hid (heap_alloc_new w (.cells #[.int .u8 0, .int .i64 0, .int .u64 0, .string ⟨#[]⟩] 26))
  go_enter Tryd.func19, Tryd.ntmps19
  go_wp2_with (fail)
  go_loopg [6] n (fun g iv wr => ∃ m : Nat, m ≤ n ∧ g = n - m ∧ iv = .int .i64 (m : Int) ∧ wr = w.alloc (.cells #[.int .u8 0, .int .i64 0, .int .u64 0, .string ⟨#[]⟩] 26) ∧ Hid (getA (l.drop m) id = R))
  case atStart => exact ⟨0, by omega, rfl, rfl, rfl, Lib.hid (by rw [List.drop_zero]; exact HR.out)⟩
  case round =>
    obtain ⟨m, hm, hg, rfl, rfl, HI⟩ := hrel
    have HG := Lib.hid hg
    clear hg HR
    by_cases hlt : m < n
    · have hl1 : m < l.length := by have := N.out; omega
      obtain ⟨ad, x, rfl, had, hd1, _, hc0⟩ := h.el hl1
      have hc1 := hc0.keep (w' := w.alloc (.cells #[.int .u8 0, .int .i64 0, .int .u64 0, .string ⟨#[]⟩] 26)) (fun q hq => World.cell?_alloc_lt w _ q (by rw [hq, add_block]; exact had))
      have HD := Lib.hid hd1
      obtain ⟨x1, x2, x3, x4, x5⟩ := x
      obtain ⟨r0, r1, r2, r3, r4⟩ := at_cells hc1
      clear hc0 hc1 hd1
      have hw2 : IntKind.i64.wrap ((m:Int) + 1) = (m : Int) + 1 := IntWalk.i64_in _ (by omega)
      obtain ⟨b0, b1, b2, b3⟩ := box_v HB.out
      by_cases hle : x1 = id
      · subst hle
        go_wp2_with (fail)
        refine bodyPost_ret (v := .tuple #[.agg #[.int .u8 x2, .int .i64 x3, .int .u64 x4, .string x5], .bool true]) (by simp [results, Tryd.results19, go_sem]) rfl ?_
        have hr := getA_found HD.out HI.out rfl
        exact ⟨x2, x3, x4, x5, true, rfl, by rw [hr]; rfl, by rw [hr]; rfl, ext_alloc w _⟩
      · go_wp2_with (fail)
        go_roundg (n - (m + 1))
        case measure => have := HG.out; omega
        case rel => exact ⟨m + 1, by omega, rfl, by go_num, rfl, Lib.hid (getA_drop HD.out HI.out hle)⟩
    · have HE := Lib.hid (getA_end (m := m) (by have := N.out; omega) HI.out)
      go_wp2_with (fail)
      refine bodyPost_ret (v := .tuple #[.agg #[.int .u8 0, .int .i64 0, .int .u64 0, .string ⟨#[]⟩], .bool false]) (by simp [results, Tryd.results19, go_sem]) rfl ?_
      exact ⟨0, 0, 0, ⟨#[]⟩, false, rfl, by rw [HE.out]; rfl, by rw [HE.out]; rfl, ext_alloc w _⟩
end Go.Proofs.YthhjjaoppacnmaaDoor
namespace Go.Proofs.YthhjjaoppacnmaaDoor
open Go.RowKit
set_option linter.unusedVariables false
set_option linter.unusedSimpArgs false

/-- cells of a block that is there -/
def CellsIn (w : World) (p : Addr) (cs : List Value) : Prop := p.block < w.heap.size ∧ CellsAt w p cs
theorem CellsIn.ext {w w' : World} {p : Addr} {cs : List Value} (h : CellsIn w p cs) (y : Below w.heap.size w w') : CellsIn w' p cs :=
  ⟨Nat.lt_of_lt_of_le h.1 y.size, h.2.keep fun q hq => y.cell (by rw [hq]; exact h.1)⟩
theorem Rd.elIn {α : Type} {enc : α → List Value} {size : Nat} {w : World} {A : Option Addr} {l : List α} (h : Rd enc size w w.heap.size A l) {i : Nat} (hi : i < l.length) :
    ∃ ad a, A = some ad ∧ l.drop i = a :: l.drop (i + 1) ∧ l[i]? = some a ∧ CellsIn w (ad.add (i * size)) (enc a) := by
  obtain ⟨ad, a, h1, h2, h3, h4, h5⟩ := h.el hi
  exact ⟨ad, a, h1, h3, h4, by rw [add_block]; exact h2, h5⟩

theorem drew_ext {w w' : World} {d : Nat} (h : w' = w.drewN d) : Below w.heap.size w w' := by subst h; exact ext_drew w d
end Go.Proofs.YthhjjaoppacnmaaDoor
namespace Go.Proofs.YthhjjaoppacnmaaDoor
open Go.RowKit
set_option linter.unusedVariables false
set_option linter.unusedSimpArgs false

theorem or_yes {a : Bool} {P Q : Prop} (h : a = true ∧ P ∨ a = false ∧ Q) (ha : a = true) : P := by
  rcases h with ⟨_, h⟩ | ⟨h, _⟩
  · exact h
  · rw [ha] at h; cases h
theorem or_no {a : Bool} {P Q : Prop} (h : a = true ∧ P ∨ a = false ∧ Q) (ha : a = false) : Q := by
  rcases h with ⟨h, _⟩ | ⟨_, h⟩
  · rw [ha] at h; cases h
  · exact h
theorem filter_drop {α : Type} {p : α → Bool} {s : List α} {m : Nat} {x : α} {r R : List α} (hd : s.drop m = x :: s.drop (m + 1)) (h : r ++ (s.drop m).filter p = R) :
    p x = true ∧ (r ++ [x]) ++ (s.drop (m + 1)).filter p = R ∨ p x = false ∧ r ++ (s.drop (m + 1)).filter p = R := by
  rw [hd, List.filter_cons] at h
  cases hp : p x with
  | true => rw [hp, if_pos rfl] at h; exact .inl ⟨rfl, by rw [← h]; simp⟩
  | false => rw [hp] at h; simp only [Bool.false_eq_true, if_false] at h; exact .inr ⟨rfl, h⟩

set_option maxRecDepth 100000 in
set_option maxHeartbeats 1600000 in
theorem without05_any (key : Int) (A : Option Addr) (n c : Nat) (l : List At) (w : World) (hn : n = l.length) (h : RdAt w w.heap.size A l) (hb : n ≤ 100000000) :
    Calls Tryd.prog 21 #[.slice A n c, .int .i64 key] w (NewAt (l.filter (fun a => !(a.key == key))) w) := by
  have N := Lib.hid hn
  obtain ⟨R, hR⟩ : ∃ X, l.filter (fun a => !(a.key == key)) = X := ⟨_, rfl⟩
  have HR := Lib.hid hR
  rw [hR]
  clear hn hR
  go_enter Tryd.func21, Tryd.ntmps21
  go_wp2_with (fail)
  go_loopg [5, 6] n (fun g ov iv wr => ∃ (m : Nat) (r : List At), m ≤ n ∧ g = n - m ∧ iv = .int .i64 (m : Int) ∧ OwAt wr w.heap.size ov r ∧ r.length ≤ m ∧ Below w.heap.size w wr ∧ Hid (r ++ (l.drop m).filter (fun a => !(a.key == key)) = R))
  case atStart => exact ⟨0, [], by omega, rfl, rfl, Ow.nil _ _, by simp, Below.refl _ _, Lib.hid (by simpa using HR.out)⟩
  case round =>
    obtain ⟨m, r, hm, hg, rfl, hown, hrl, y, HI⟩ := hrel
    have HG := Lib.hid hg
    clear hg HR
    by_cases hlt : m < n
    · obtain ⟨ad, x, rfl, hd1, hx1, hc0⟩ := (h.ext y).elIn (i := m) (by have := N.out; omega)
      have hst := filter_drop hd1 HI.out
      obtain ⟨x1, x2, x3, x4, x5⟩ := x
      have CX := Lib.hid hc0
      obtain ⟨r0, r1, r2, r3, r4⟩ := at_cells CX.out.2
      have HST := Lib.hid hst
      have hw2 : IntKind.i64.wrap ((m:Int) + 1) = (m : Int) + 1 := IntWalk.i64_in _ (by omega)
      clear hst hc0 hd1 hx1 HI
      by_cases hk : x1 = key
      · have hk2 : (x1 == key) = true := beq_iff_eq.2 hk
        have hk3 : (x1 != key) = false := by rw [bne, hk2]; rfl
        have HN : Hid (r ++ (l.drop (m + 1)).filter (fun a => !(a.key == key)) = R) := Lib.hid (or_no HST.out (by simp [hk]))
        clear hk
        go_wp2_with (fail)
        go_roundg (n - (m + 1))
        case measure => have := HG.out; omega
        case rel => exact ⟨m + 1, r, by omega, rfl, by go_num, by first | exact hown | exact hown.drewN _, by omega, by first | exact y | exact below_drewN y _, HN⟩
      · have hk2 : (x1 == key) = false := beq_eq_false_iff_ne.2 hk
        have hk3 : (x1 != key) = true := by rw [bne, hk2]; rfl
        have HN : Hid ((r ++ [⟨x1, ⟨x2, x3, x4, x5⟩⟩]) ++ (l.drop (m + 1)).filter (fun a => !(a.key == key)) = R) := Lib.hid (or_yes HST.out (by simp [hk2]))
        clear hk
        go_wp2_with ((at_builtin; refine app_at (m := [⟨x1, ⟨x2, x3, x4, x5⟩⟩]) rfl (.tmp 20) (.tmp 25) rfl rfl (by first | exact (hown.drewN _).alloc _ | exact hown.alloc _) _ _ 1 1 rfl rfl (by first | exact rd_one _ _ _ rfl | exact rd_one_at (enc := At.enc) (size := 5) (w3.alloc _) _ ⟨x1, ⟨x2, x3, x4, x5⟩⟩ rfl (by rw [World.size_alloc])) (by simp only [List.length_singleton]; omega) (by exact Nat.le_trans y.size (le_alloc _ _)) ?_; intro v' w' hown' hgr hv'))
        have s1 := below_app (by first | exact (below_drewN y _).alloc y.size _ | exact y.alloc y.size _) (by exact Nat.le_trans y.size (le_alloc _ _)) (by first | exact (hown.drewN _).alloc _ | exact hown.alloc _) (Nat.le_refl _) hgr
        go_roundg (n - (m + 1))
        case measure => have := HG.out; omega
        case rel => exact ⟨m + 1, r ++ [⟨x1, ⟨x2, x3, x4, x5⟩⟩], by omega, rfl, by go_num, hown', by simp; omega, s1, HN⟩
    · have hR : r = R := by
        have h := HI.out
        rw [List.drop_eq_nil_of_le (by have := N.out; omega)] at h
        simpa using h
      subst hR
      obtain ⟨A', c', rfl, _, _⟩ := hown.form
      have HOW := Lib.hid hown
      clear hown
      go_wp2_with (fail)
      go_ret
      exact ⟨A', c', rfl, HOW.out, y⟩

/-- a put in ahead of the first one whose key is greater -/
def insW (a : At) : List At → List At
  | [] => [a]
  | x :: t => if a.key < x.key then a :: x :: t else x :: insW a t
theorem insW_lt {a x : At} {t : List At} (h : a.key < x.key) : insW a (x :: t) = a :: x :: t := by rw [insW, if_pos h]
theorem insW_ge {a x : At} {t : List At} (h : ¬ a.key < x.key) : insW a (x :: t) = x :: insW a t := by rw [insW, if_neg h]
theorem insW_all {s : List At} (hs : Srt At.key s) (a : At) (hn : ∀ x ∈ s, x.key ≠ a.key) : Srt At.key (insW a s) ∧ (∀ k, lk At.key (insW a s) k = if a.key = k then some a else lk At.key s k) ∧ ∀ m : Int, m < a.key → (∀ x ∈ s, m < x.key) → ∀ x ∈ insW a s, m < x.key := by
  induction s with
  | nil => exact ⟨(srt_cons At.key).2 ⟨by simp, Srt.nil At.key⟩, fun k => by rw [insW, lk_cons], fun m h _ x hx => by simp [insW] at hx; subst hx; exact h⟩
  | cons x t ih =>
    obtain ⟨h1, h2⟩ := (srt_cons At.key).1 hs
    obtain ⟨g1, g2, g3⟩ := ih h2 (fun y hy => hn y (List.mem_cons_of_mem _ hy))
    by_cases hk : a.key < x.key
    · rw [insW_lt hk]
      refine ⟨(srt_cons At.key).2 ⟨fun b hb => ?_, hs⟩, fun k => by rw [lk_cons], fun m hm hl y hy => ?_⟩
      · rcases List.mem_cons.1 hb with rfl | hb
        · exact hk
        · have := h1 b hb; omega
      · rcases List.mem_cons.1 hy with rfl | hy
        · exact hm
        · exact hl y hy
    · rw [insW_ge hk]
      have hne := hn x (by simp)
      refine ⟨(srt_cons At.key).2 ⟨fun b hb => g3 x.key (by omega) h1 b hb, g1⟩, fun k => ?_, fun m hm hl y hy => ?_⟩
      · rw [lk_cons, lk_cons, g2 k]
        by_cases h3 : x.key = k
        · rw [if_pos h3, if_pos h3, if_neg (by omega)]
        · rw [if_neg h3, if_neg h3]
      · rcases List.mem_cons.1 hy with rfl | hy
        · exact hl y (by simp)
        · exact g3 m hm (fun z hz => hl z (List.mem_cons_of_mem _ hz)) y hy
/-- what the document's With answers -/
def with05P (l : List At) (a : At) : List At := insW a (l.filter (fun x => !(x.key == a.key)))
theorem with05_is {l : List At} (h : riseA l = true) (a : At) : with05P l a = withP l a := by
  obtain ⟨h1, h2, _⟩ := with_all h a
  have hs := riseA_srt.1 h
  obtain ⟨g1, g2, _⟩ := insW_all (hs.filter At.key (fun x => !(x.key == a.key))) a (fun x hx => by have := (List.mem_filter.1 hx).2; simpa using this)
  refine lk_ext At.key g1 (riseA_srt.1 h1) fun k => ?_
  unfold with05P
  rw [g2 k, h2 k, lk_filter At.key hs]
  by_cases hk : a.key = k
  · rw [if_pos hk, if_pos hk]
  · rw [if_neg hk, if_neg hk]
    cases hl : lk At.key l k with
    | none => rfl
    | some x =>
      have := lk_key At.key hl
      have hx : ¬ x.key = a.key := by omega
      simp [Option.filter, hx]
def bnd (b : Bool) : Nat := if b = true then 1 else 0
theorem bnd_t : bnd true = 1 := rfl
theorem bnd_f : bnd false = 0 := rfl
theorem bnd_le (b : Bool) : bnd b ≤ 1 := by cases b <;> decide
/-- what is left to do -/
def insRest (inb : Bool) (a : At) (s : List At) : List At := if inb = true then s else insW a s
theorem insRest_t (a : At) (s : List At) : insRest true a s = s := rfl
theorem insRest_f (a : At) (s : List At) : insRest false a s = insW a s := rfl
set_option maxRecDepth 100000 in
set_option maxHeartbeats 1600000 in
theorem with05_any (A : Option Addr) (n c : Nat) (l : List At) (a1 a2 a3 a4 : Int) (a5 : ByteArray) (w : World) (hn : n = l.length) (h : RdAt w w.heap.size A l) (hb : n ≤ 10000000) :
    Calls Tryd.prog 20 #[.slice A n c, .agg #[.int .i64 a1, .int .u8 a2, .int .i64 a3, .int .u64 a4, .string a5]] w (NewAt (with05P l ⟨a1, ⟨a2, a3, a4, a5⟩⟩) w) := by
  have N := Lib.hid hn
  obtain ⟨R, hR⟩ : ∃ X, with05P l ⟨a1, ⟨a2, a3, a4, a5⟩⟩ = X := ⟨_, rfl⟩
  have HR := Lib.hid hR
  rw [hR]
  have y0 := ext_alloc w (.cells #[.int .i64 a1, .int .u8 a2, .int .i64 a3, .int .u64 a4, .string a5] 28)
  have HBX := Lib.hid (heap_alloc_new w (.cells #[.int .i64 a1, .int .u8 a2, .int .i64 a3, .int .u64 a4, .string a5] 28))
  clear hn hR
  go_enter Tryd.func20, Tryd.ntmps20
  go_wp2_with (go_at_call 21; refine Hid.out ?_)
  refine Lib.hid ?_
  refine (without05_any a1 A n c l _ N.out (h.ext y0) (by omega)).mono ?_
  rintro e w1 ⟨A1, c1, rfl, ho, y1⟩
  have hlf : (l.filter (fun x => !(x.key == a1))).length ≤ n := by rw [N.out]; exact List.length_filter_le _ _
  have HR2 : Hid (insW ⟨a1, ⟨a2, a3, a4, a5⟩⟩ (l.filter (fun x => !(x.key == a1))) = R) := Lib.hid HR.out
  generalize l.filter (fun x => !(x.key == a1)) = s at *
  obtain ⟨k, hk⟩ : ∃ k, k = s.length := ⟨_, rfl⟩
  rw [← hk] at ho hlf ⊢
  have K := Lib.hid hk
  have rs := ho.rd At.enc_len
  have HBX := Lib.hid ((y1.block _ (lt_of_some HBX.out)).trans HBX.out)
  have y := ext_trans y0 y1
  clear ho hk HR y0 y1
  go_wp2_with (fail)
  go_loopg [6, 7, 8] k (fun g ov bv iv wr => ∃ (m : Nat) (r : List At) (inb : Bool), m ≤ k ∧ g = k - m ∧ bv = .bool inb ∧ iv = .int .i64 (m : Int) ∧ OwAt wr w1.heap.size ov r ∧ r.length ≤ m + bnd inb ∧ Below w1.heap.size w1 wr ∧ Hid (r ++ insRest inb ⟨a1, ⟨a2, a3, a4, a5⟩⟩ (s.drop m) = R))
  case atStart => exact ⟨0, [], false, by omega, rfl, rfl, rfl, Ow.nil _ _, by simp, Below.refl _ _, Lib.hid (by simpa [insRest] using HR2.out)⟩
  case round =>
    obtain ⟨m, r, inb, hm, hg, rfl, rfl, hown, hrl, yr, HI⟩ := hrel
    have bd := bnd_le inb
    have HG := Lib.hid hg
    clear hg HR2
    have hbx := (yr.block _ (lt_of_some HBX.out)).trans HBX.out
    obtain ⟨b0, b1, b2, b3, b4⟩ := box_at hbx
    have HB2 := Lib.hid hbx
    clear hbx
    by_cases hlt : m < k
    · obtain ⟨ad, x, rfl, hd1, hx1, hc0⟩ := (rs.ext yr).elIn (i := m) (by have := K.out; omega)
      have hst := HI.out
      rw [hd1] at hst
      obtain ⟨x1, x2, x3, x4, x5⟩ := x
      have CX := Lib.hid hc0
      obtain ⟨r0, r1, r2, r3, r4⟩ := at_cells CX.out.2
      have HST := Lib.hid hst
      have hw2 : IntKind.i64.wrap ((m:Int) + 1) = (m : Int) + 1 := IntWalk.i64_in _ (by omega)
      have HX1 := Lib.hid hx1
      clear hst hc0 hd1 hx1 HI
      cases inb with
      | true =>
        have HN : Hid ((r ++ [⟨x1, ⟨x2, x3, x4, x5⟩⟩]) ++ insRest true ⟨a1, ⟨a2, a3, a4, a5⟩⟩ (s.drop (m + 1)) = R) := Lib.hid (by rw [← HST.out]; simp [insRest])
        go_wp2_with (first
          | go_quiet (fail)
          | (at_builtin; refine app_at (m := [⟨x1, ⟨x2, x3, x4, x5⟩⟩]) rfl (.tmp 35) (.tmp 40) rfl rfl (by first | exact (hown.drewN _).alloc _ | exact hown.alloc _) _ _ 1 1 rfl rfl (by exact rd_one _ _ _ rfl) (by simp only [List.length_singleton]; omega) (by exact Nat.le_trans yr.size (le_alloc _ _)) ?_; intro v' w' hown' hgr hv'))
        have s1 := below_app (by first | exact (below_drewN yr _).alloc yr.size _ | exact yr.alloc yr.size _) (by exact Nat.le_trans yr.size (le_alloc _ _)) (by first | exact (hown.drewN _).alloc _ | exact hown.alloc _) (Nat.le_refl _) hgr
        go_roundg (k - (m + 1))
        case measure => have := HG.out; omega
        case rel => exact ⟨m + 1, r ++ [⟨x1, ⟨x2, x3, x4, x5⟩⟩], true, by omega, rfl, rfl, by go_num, hown', by have := bnd_t; simp; omega, s1, HN⟩
      | false =>
        by_cases hk : a1 < x1
        · have HN : Hid ((r ++ [⟨a1, ⟨a2, a3, a4, a5⟩⟩]) ++ [⟨x1, ⟨x2, x3, x4, x5⟩⟩] ++ insRest true ⟨a1, ⟨a2, a3, a4, a5⟩⟩ (s.drop (m + 1)) = R) := Lib.hid (by rw [← HST.out, insRest_f, insRest_t, insW_lt (a := ⟨a1, ⟨a2, a3, a4, a5⟩⟩) (x := ⟨x1, ⟨x2, x3, x4, x5⟩⟩) hk]; simp)
          go_wp2_with (first
            | go_quiet (fail)
            | (at_builtin
               refine app_at (m := [⟨a1, ⟨a2, a3, a4, a5⟩⟩]) rfl (.tmp 31) (.tmp 33) rfl rfl (by first | exact (hown.drewN _).alloc _ | exact hown.alloc _) _ _ 1 1 rfl rfl (by exact rd_one _ _ _ rfl) (by simp only [List.length_singleton]; omega) (by exact Nat.le_trans yr.size (le_alloc _ _)) ?_
               intro v' w' ho1 hgr hv'
               have s1 := below_app (by first | exact (below_drewN yr _).alloc yr.size _ | exact yr.alloc yr.size _) (by exact Nat.le_trans yr.size (le_alloc _ _)) (by first | exact (hown.drewN _).alloc _ | exact hown.alloc _) (Nat.le_refl _) hgr
               obtain ⟨ad', x', hA, -, hx2, hc0⟩ := (rs.ext s1).elIn (i := m) (by have := K.out; omega)
               injection hA with hA
               subst hA
               have hx3 := HX1.out
               rw [hx2] at hx3
               injection hx3 with hx3
               subst hx3
               obtain ⟨g0, g1, g2, g3, g4⟩ := at_cells hc0.2
               clear hx2 hc0 hgr hv')
            | (at_builtin; refine app_at (m := [⟨x1, ⟨x2, x3, x4, x5⟩⟩]) rfl (.tmp 35) (.tmp 40) rfl rfl (by first | exact (ho1.drewN _).alloc _ | exact ho1.alloc _) _ _ 1 1 rfl rfl (by exact rd_one _ _ _ rfl) (by simp only [List.length_singleton, List.length_append]; omega) (by exact Nat.le_trans s1.size (le_alloc _ _)) ?_; intro v' w' hown' hgr hv'))
          have s2 := below_app (by first | exact (below_drewN s1 _).alloc s1.size _ | exact s1.alloc s1.size _) (by exact Nat.le_trans s1.size (le_alloc _ _)) (by first | exact (ho1.drewN _).alloc _ | exact ho1.alloc _) (Nat.le_refl _) hgr
          go_roundg (k - (m + 1))
          case measure => have := HG.out; omega
          case rel => exact ⟨m + 1, r ++ [⟨a1, ⟨a2, a3, a4, a5⟩⟩] ++ [⟨x1, ⟨x2, x3, x4, x5⟩⟩], true, by omega, rfl, rfl, by go_num, hown', by have := bnd_t; have := bnd_f; simp; omega, s2, HN⟩
        · have HN : Hid ((r ++ [⟨x1, ⟨x2, x3, x4, x5⟩⟩]) ++ insRest false ⟨a1, ⟨a2, a3, a4, a5⟩⟩ (s.drop (m + 1)) = R) := Lib.hid (by rw [← HST.out, insRest_f, insRest_f, insW_ge (a := ⟨a1, ⟨a2, a3, a4, a5⟩⟩) (x := ⟨x1, ⟨x2, x3, x4, x5⟩⟩) hk]; simp)
          go_wp2_with (first
            | go_quiet (fail)
            | (at_builtin; refine app_at (m := [⟨x1, ⟨x2, x3, x4, x5⟩⟩]) rfl (.tmp 35) (.tmp 40) rfl rfl (by first | exact (hown.drewN _).alloc _ | exact hown.alloc _) _ _ 1 1 rfl rfl (by exact rd_one _ _ _ rfl) (by simp only [List.length_singleton]; omega) (by exact Nat.le_trans yr.size (le_alloc _ _)) ?_; intro v' w' hown' hgr hv'))
          have s1 := below_app (by first | exact (below_drewN yr _).alloc yr.size _ | exact yr.alloc yr.size _) (by exact Nat.le_trans yr.size (le_alloc _ _)) (by first | exact (hown.drewN _).alloc _ | exact hown.alloc _) (Nat.le_refl _) hgr
          go_roundg (k - (m + 1))
          case measure => have := HG.out; omega
          case rel => exact ⟨m + 1, r ++ [⟨x1, ⟨x2, x3, x4, x5⟩⟩], false, by omega, rfl, rfl, by go_num, hown', by have := bnd_f; simp; omega, s1, HN⟩
    · have HE : Hid (r ++ insRest inb ⟨a1, ⟨a2, a3, a4, a5⟩⟩ [] = R) := Lib.hid (by have h := HI.out; rwa [List.drop_eq_nil_of_le (by have := K.out; omega)] at h)
      cases inb with
      | true =>
        have hR : r = R := by have h := HE.out; simpa [insRest] using h
        subst hR
        obtain ⟨A', c', rfl, _, _⟩ := hown.form
        have HOW := Lib.hid (hown.base_le (B := w.heap.size) y.size)
        clear hown
        go_wp2_with (fail)
        go_ret
        exact ⟨A', c', rfl, HOW.out, ext_trans y yr⟩
      | false =>
        have hR : r ++ [⟨a1, ⟨a2, a3, a4, a5⟩⟩] = R := by have h := HE.out; simpa [insRest, insW] using h
        have HRR := Lib.hid hR
        clear hR
        go_wp2_with (first
          | go_quiet (fail)
          | (at_builtin; refine app_at (m := [⟨a1, ⟨a2, a3, a4, a5⟩⟩]) rfl (.tmp 44) (.tmp 46) rfl rfl (by first | exact (hown.drewN _).alloc _ | exact hown.alloc _) _ _ 1 1 rfl rfl (by exact rd_one _ _ _ rfl) (by simp only [List.length_singleton]; omega) (by exact Nat.le_trans yr.size (le_alloc _ _)) ?_; intro v' w' hown' hgr hv'))
        have s1 := below_app (by first | exact (below_drewN yr _).alloc yr.size _ | exact yr.alloc yr.size _) (by exact Nat.le_trans yr.size (le_alloc _ _)) (by first | exact (hown.drewN _).alloc _ | exact hown.alloc _) (Nat.le_refl _) hgr
        rw [HRR.out] at hown'
        obtain ⟨A', c', rfl, _, _⟩ := hown'.form
        have HOW := Lib.hid (hown'.base_le (B := w.heap.size) y.size)
        clear hown'
        go_ret
        exact ⟨A', c', rfl, HOW.out, ext_trans y s1⟩

end Go.Proofs.YthhjjaoppacnmaaDoor
