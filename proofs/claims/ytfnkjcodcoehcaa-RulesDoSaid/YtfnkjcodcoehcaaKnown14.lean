/- The walks of rubriclaw14.great and rubriclaw14.known. -/
import Derived.Test.YtfnkjcodcoehcaaStep
import Derived.Test.YtfnkjcodcoehcaaSchemaNew
import Derived.BigQuiet
import Derived.Deep.QuietTactic
namespace Go.Proofs.Ytfnkjcodcoehcaa
open Go.RowKit
set_option linter.unusedVariables false
set_option linter.unusedSimpArgs false

/-- a slice in a row of slices -/
structure SlN where
  A : Option Addr
  n : Nat
  c : Nat
def SlN.enc (s : SlN) : List Value := [.slice s.A s.n s.c]
theorem SlN.enc_len (s : SlN) : s.enc.length = 1 := rfl
def GreatOut (nk np : Nat) (xs : List SlN) (w : World) (e : Ending) (w' : World) : Prop := ∃ b : Bool, e = .returned (.bool b) ∧ (b = false → nk ≤ 64 ∧ np ≤ 100 ∧ ∀ s ∈ xs, s.n ≤ 100) ∧ w = w'
set_option maxRecDepth 100000 in
set_option maxHeartbeats 1600000 in
theorem great14_any (Ak Ap A : Option Addr) (nk ck np cp n c : Nat) (xs : List SlN) (w : World) (hn : n = xs.length) (hk : nk ≤ 9223372036854775807) (hp : np ≤ 9223372036854775807) (hxs : ∀ s ∈ xs, s.n ≤ 9223372036854775807) (h : Rd SlN.enc 1 w w.heap.size A xs) (hb : n ≤ 140737488355328) :
    Calls Try.prog 4 #[.slice Ak nk ck, .slice Ap np cp, .slice A n c] w (GreatOut nk np xs w) := by
  have N := Lib.hid hn
  have HX := Lib.hid hxs
  clear hn hxs
  by_cases h64 : (64 : Int) < (nk : Int)
  · go_enter Try.func4, Try.ntmps4
    go_wp2_with (fail)
    go_ret
    exact ⟨true, rfl, (by intro h; cases h), rfl⟩
  by_cases h100 : (100 : Int) < (np : Int)
  · go_enter Try.func4, Try.ntmps4
    go_wp2_with (fail)
    go_ret
    exact ⟨true, rfl, (by intro h; cases h), rfl⟩
  have hk64 : nk ≤ 64 ∧ np ≤ 100 := by omega
  have HK := Lib.hid hk64
  clear hk64
  go_enter Try.func4, Try.ntmps4
  go_wp2_with (fail)
  go_loopg [18] n (fun g iv wr => ∃ m : Nat, m ≤ n ∧ g = n - m ∧ iv = .int .i64 (m : Int) ∧ Hid (∀ s ∈ xs.take m, s.n ≤ 100) ∧ w = wr)
  case atStart => exact ⟨0, by omega, rfl, rfl, Lib.hid (by simp), rfl⟩
  case round =>
    obtain ⟨m, hm, hg, rfl, HI, rfl⟩ := hrel
    have HG := Lib.hid hg
    clear hg
    by_cases hlt : m < n
    · obtain ⟨ad, z, had0, had, _, hx1, hc0⟩ := h.el (i := m) (by have := N.out; omega)
      subst had0
      have hz := HX.out z (List.mem_of_getElem? hx1)
      have HT := Lib.hid (take_snoc hx1)
      obtain ⟨A3, n3, c3⟩ := z
      simp only at hz
      have q0 : _ = some (Value.slice A3 n3 c3) := hc0 0 _ rfl
      rw [add_zero', Nat.mul_one] at q0
      have hw2 : IntKind.i64.wrap ((m:Int) + 1) = (m : Int) + 1 := IntWalk.i64_in _ (by omega)
      clear hx1 hc0
      by_cases hl : (100 : Int) < (n3 : Int)
      · go_wp2_with (fail)
        go_ret
        exact ⟨true, rfl, (by intro h; cases h), rfl⟩
      · have hl3 : n3 ≤ 100 := by omega
        go_wp2_with (fail)
        go_roundg (n - (m + 1))
        case measure => have := HG.out; omega
        case rel => exact ⟨m + 1, by omega, rfl, by go_num, Lib.hid (fun s hs => by
          rw [HT.out] at hs
          rcases List.mem_append.1 hs with hs | hs
          · exact HI.out s hs
          · simp at hs; subst hs; exact hl3), rfl⟩
    · go_wp2_with (fail)
      go_ret
      refine ⟨false, rfl, fun _ => ⟨HK.out.1, HK.out.2, fun s hs => HI.out s ?_⟩, rfl⟩
      rw [List.take_of_length_le (by have := N.out; omega)]; exact hs

def kk14 : List Ky := [⟨11, true, 2, false, false, 1⟩, ⟨12, true, 4, false, false, 1⟩, ⟨13, true, 2, false, false, 1⟩]
def kp14 : List Ch := [⟨12, false, ⟨4, 0, 0, ⟨#[97]⟩⟩⟩]
def ks14 : List At := [⟨11, ⟨2, 7, 0, ⟨#[]⟩⟩⟩]
def kr14 : List Ch := [goneK 11, ⟨12, false, ⟨4, 0, 0, ⟨#[97]⟩⟩⟩, goneK 13]
def kt14 : List Ch := [⟨11, false, ⟨2, 8, 0, ⟨#[]⟩⟩⟩, goneK 12, goneK 13]
theorem kk14_may : mayKs kk14 = true := by decide +kernel
theorem kr14_is : confP kk14 kp14 = false ∧ completeP kk14 kp14 = kr14 := by decide +kernel
theorem kt14_is : stepP kk14 ks14 11 5 = (kt14, 0) := by decide +kernel

set_option maxRecDepth 100000 in
set_option maxHeartbeats 3200000 in
theorem known14_any (w : World) : Calls Try.prog 5 #[] w fun e w' => e = .returned (.bool true) ∧ Below w.heap.size w w' := by
  go_enter Try.func5, Try.ntmps5
  go_wp2_with (go_at_call 6; refine Hid.out ?_)
  refine Lib.hid ?_
  have y := ext_alloc w (.cells #[.int .i64 11, .bool true, .int .u8 2, .bool false, .bool false, .int .i64 1, .int .i64 12, .bool true, .int .u8 4, .bool false, .bool false, .int .i64 1, .int .i64 13, .bool true, .int .u8 2, .bool false, .bool false, .int .i64 1] 53)
  have rk : RdKy _ _ _ kk14 := Rd.new (enc := Ky.enc) (size := 6) Ky.enc_len w 53 kk14 (cs := #[.int .i64 11, .bool true, .int .u8 2, .bool false, .bool false, .int .i64 1, .int .i64 12, .bool true, .int .u8 4, .bool false, .bool false, .int .i64 1, .int .i64 13, .bool true, .int .u8 2, .bool false, .bool false, .int .i64 1]) rfl rfl
  refine (new_any (some ⟨w.heap.size, 0, none⟩) 3 3 kk14 _ rfl rk (by omega)).mono ?_
  rintro e v1 ⟨y1, ⟨hm, s, rfl, hS⟩ | ⟨hm, rfl⟩⟩
  rotate_left
  · rw [kk14_may] at hm; cases hm
  clear hm rk
  replace y := ext_trans y y1
  have yb := ext_alloc v1 (.cells #[.int .u8 4, .int .i64 0, .int .u64 0, .string ⟨#[97]⟩] 47)
  have hb := heap_alloc_new v1 (.cells #[.int .u8 4, .int .i64 0, .int .u64 0, .string ⟨#[97]⟩] 47)
  have HBX := Lib.hid hb
  have HS := Lib.hid (hS.ext yb)
  replace y := ext_trans y yb
  clear y1 yb hS hb
  go_wp2_with (go_at_call 10; refine Hid.out ?_)
  refine Lib.hid ?_
  have HSZ : Hid ((v1.alloc (.cells #[.int .u8 4, .int .i64 0, .int .u64 0, .string ⟨#[97]⟩] 47)).heap.size = v1.heap.size + 1) := Lib.hid (by simp)
  generalize v1.alloc (.cells #[.int .u8 4, .int .i64 0, .int .u64 0, .string ⟨#[97]⟩] 47) = v2 at *
  have yp := ext_alloc v2 (.cells #[.int .i64 12, .bool false, .int .u8 4, .int .i64 0, .int .u64 0, .string ⟨#[97]⟩] 49)
  have rp : RdCh _ _ _ kp14 := Rd.new (enc := Ch.enc) (size := 6) Ch.enc_len v2 49 kp14 (cs := #[.int .i64 12, .bool false, .int .u8 4, .int .i64 0, .int .u64 0, .string ⟨#[97]⟩]) rfl (b := v1.heap.size + 1) HSZ.out.symm
  refine (complete_any s kk14 _ 1 1 kp14 _ rfl rp (by omega) (HS.out.ext yp) (by decide)).mono ?_
  rintro e v3 ⟨r, er, Ar, cr, rfl, hcr, _, hor, y3⟩
  obtain ⟨rfl, rfl⟩ : er = 0 ∧ r = kr14 := by
    rcases hcr rfl with ⟨h1, _⟩ | ⟨_, h1, h2⟩
    · rw [kr14_is.1] at h1; cases h1
    · exact ⟨h1, h2.trans kr14_is.2⟩
  have HOR := Lib.hid (hor.rd Ch.enc_len)
  have yq := ext_trans yp y3
  have HS3 := Lib.hid (HS.out.ext yq)
  have HBX3 := Lib.hid ((yq.block _ (lt_of_some HBX.out)).trans HBX.out)
  replace y := ext_trans y yq
  clear yp rp hcr hor y3 yq
  rw [show kr14.length = 3 from rfl]
  go_wp2_with (go_at_call 13; refine Hid.out ?_)
  refine Lib.hid ?_
  have ys := ext_alloc v3 (.cells #[.int .i64 11, .int .u8 2, .int .i64 7, .int .u64 0, .string ⟨#[]⟩] 55)
  have rs : RdAt _ _ _ ks14 := Rd.new (enc := At.enc) (size := 5) At.enc_len v3 55 ks14 (cs := #[.int .i64 11, .int .u8 2, .int .i64 7, .int .u64 0, .string ⟨#[]⟩]) rfl rfl
  refine (step_any s kk14 _ 1 1 ks14 11 5 _ rfl rs (by omega) (by omega) (by unfold maxLen; omega) (HS3.out.ext ys) (by decide)).mono ?_
  rintro e v4 ⟨q, eq, Aq, cq, rfl, hcq, _, hoq, y4⟩
  have hq := hcq rfl
  rw [kt14_is] at hq
  injection hq with hq1 hq2
  subst hq1 hq2
  have RQ := Lib.hid (hoq.rd Ch.enc_len)
  have yq := ext_trans ys y4
  have RR := Lib.hid (HOR.out.ext yq)
  have HBX4 := Lib.hid ((yq.block _ (lt_of_some HBX3.out)).trans HBX3.out)
  replace y := ext_trans y yq
  clear ys rs hcq hoq y4 yq
  rw [show kt14.length = 3 from rfl]
  obtain ⟨p0, p1, p2, p3⟩ := box_v HBX4.out
  obtain ⟨ad, a, hA, had, _, hl0, hc0⟩ := RR.out.el (i := 0) (by decide)
  subst hA
  obtain ⟨ad', a1, hA, _, _, hl1, hc1⟩ := RR.out.el (i := 1) (by decide)
  injection hA with hA; subst hA
  obtain ⟨ad', a2, hA, _, _, hl2, hc2⟩ := RR.out.el (i := 2) (by decide)
  injection hA with hA; subst hA
  obtain ⟨aq, b0, hA, hadq, _, hm0, hd0⟩ := RQ.out.el (i := 0) (by decide)
  subst hA
  have e0 : a = goneK 11 := by injection hl0 with h; exact h.symm
  have e1 : a1 = ⟨12, false, ⟨4, 0, 0, ⟨#[97]⟩⟩⟩ := by injection hl1 with h; exact h.symm
  have e2 : a2 = goneK 13 := by injection hl2 with h; exact h.symm
  have e3 : b0 = ⟨11, false, ⟨2, 8, 0, ⟨#[]⟩⟩⟩ := by injection hm0 with h; exact h.symm
  subst e0 e1 e2 e3
  have g0 := (ch_cells (k := 11) (g := true) (a := 0) (n := 0) (f := 0) (s := ⟨#[]⟩) hc0).2.1
  obtain ⟨-, -, g1, g2, g3, g4⟩ := ch_cells hc1
  have g5 := (ch_cells (k := 13) (g := true) (a := 0) (n := 0) (f := 0) (s := ⟨#[]⟩) hc2).2.1
  have g6 := (ch_cells hd0).2.2.2.1
  simp only [Nat.zero_mul, add_zero', add_block] at g0 g6
  have f1 : v4.cell? ⟨ad.block, ad.off + 8, none⟩ = _ := g1
  have f2 : v4.cell? ⟨ad.block, ad.off + 9, none⟩ = _ := g2
  have f3 : v4.cell? ⟨ad.block, ad.off + 10, none⟩ = _ := g3
  have f4 : v4.cell? ⟨ad.block, ad.off + 11, none⟩ = _ := g4
  have f5 : v4.cell? ⟨ad.block, ad.off + 13, none⟩ = _ := g5
  clear g1 g2 g3 g4 g5 hc0 hc1 hc2 hd0 hl0 hl1 hl2 hm0
  go_wp2_with (fail)
  go_quiet (fail)
  go_wp2_with (fail)
  go_ret
  exact ⟨rfl, below_drewN y _⟩
end Go.Proofs.Ytfnkjcodcoehcaa
