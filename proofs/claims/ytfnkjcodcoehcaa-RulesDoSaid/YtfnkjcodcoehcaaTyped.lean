/- The walk of rules.Typed. -/
import Derived.Test.YtfnkjcodcoehcaaSift
import Derived.Test.YtfnkjcodcoehcaaAttrsLaw
namespace Go.Proofs.Ytfnkjcodcoehcaa
open Go.RowKit
set_option linter.unusedVariables false
set_option linter.unusedSimpArgs false

/-- what a typed rune has -/
def typedP (l : List Ky) (a b : List At) : List At := (siftP l beforeK b).foldl stepB (siftP l afterK a)
theorem sift_rise {l : List Ky} {pr : Ky → Bool} {s : List At} (h : riseA s = true) : riseA (siftP l pr s) = true := riseA_srt.2 ((riseA_srt.1 h).filter At.key _)
theorem sift_len (l : List Ky) (pr : Ky → Bool) (s : List At) : (siftP l pr s).length ≤ s.length := List.length_filter_le _ _
/-- what rules.Typed answers -/
def TypedOut (l : List Ky) (a b : List At) (w : World) (e : Ending) (w' : World) : Prop :=
  ∃ r, (riseA a = true → r = typedP l a b) ∧ r.length ≤ a.length + b.length ∧ NewAt r w e w'
theorem stepB_drop {sb s R : List At} {m : Nat} {x : At} {Q : Prop} (hd : sb.drop m = x :: sb.drop (m + 1)) (h : Q → riseA s = true ∧ (sb.drop m).foldl stepB s = R) : Q → riseA s = true ∧ (sb.drop (m + 1)).foldl stepB (stepB s x) = R := by
  intro q
  obtain ⟨h1, h2⟩ := h q
  rw [hd] at h2
  exact ⟨h1, h2⟩
set_option maxRecDepth 100000 in
set_option maxHeartbeats 1600000 in
theorem typed_any (s : Nat) (l : List Ky) (A B : Option Addr) (n k c d : Nat) (a b : List At) (w : World) (hn : n = a.length) (hk : k = b.length) (h1 : RdAt w w.heap.size A a) (h2 : RdAt w w.heap.size B b) (hb : n ≤ 1000000) (hb2 : k ≤ 1000000) (hS : Sch w s l) :
    Calls Try.prog 12 #[.pointer (some ⟨s, 0, none⟩), .slice A n c, .slice B k d] w (TypedOut l a b w) := by
  have N := Lib.hid hn
  have K := Lib.hid hk
  obtain ⟨R, hR⟩ : ∃ X, typedP l a b = X := ⟨_, rfl⟩
  obtain ⟨sa, hsa⟩ : ∃ X, siftP l afterK a = X := ⟨_, rfl⟩
  obtain ⟨sb, hsb⟩ : ∃ X, siftP l beforeK b = X := ⟨_, rfl⟩
  have la : sa.length ≤ n := by rw [← hsa, hn]; exact sift_len _ _ _
  have lb : sb.length ≤ k := by rw [← hsb, hk]; exact sift_len _ _ _
  have HR0 : Hid (riseA a = true → riseA sa = true ∧ sb.foldl stepB sa = R) := Lib.hid (fun h => ⟨by rw [← hsa]; exact sift_rise h, by rw [← hR, ← hsa, ← hsb]; rfl⟩)
  have SA := Lib.hid hsa
  have SB := Lib.hid hsb
  have RR := Lib.hid hR
  clear hn hk hsa hsb hR
  go_enter Try.func12, Try.ntmps12
  go_wp2_with (go_at_call 29; refine Hid.out ?_)
  refine Lib.hid ?_
  refine (sift_after s l A n c a w N.out h1 (by omega) hS).mono ?_
  rintro e w1 ⟨A1, c1, rfl, ho1, y1⟩
  rw [SA.out] at ho1 ⊢
  have HO1 := Lib.hid ho1
  clear ho1
  go_wp2_with (go_at_call 29; refine Hid.out ?_)
  refine Lib.hid ?_
  refine (sift_before s l B k d b w1 K.out (h2.ext y1) (by omega) (hS.ext y1)).mono ?_
  rintro e w2 ⟨A2, c2, rfl, ho2, y2⟩
  rw [SB.out] at ho2 ⊢
  have y := ext_trans y1 y2
  have rb := ho2.rd At.enc_len
  have HO2 := Lib.hid (HO1.out.below y2 (Nat.le_refl _))
  clear ho2
  obtain ⟨k2, hk2⟩ : ∃ k2, k2 = sb.length := ⟨_, rfl⟩
  rw [← hk2] at lb ⊢
  have K2 := Lib.hid hk2
  clear hk2
  go_wp2_with (fail)
  go_loopg [7, 19] k2 (fun g ov iv wr => ∃ (m : Nat) (r : List At) (A7 : Option Addr) (c7 : Nat), m ≤ k2 ∧ g = k2 - m ∧ ov = .slice A7 r.length c7 ∧ iv = .int .i64 (m : Int) ∧ OwAt wr w.heap.size (.slice A7 r.length c7) r ∧ r.length ≤ n + m ∧ Below w2.heap.size w2 wr ∧ Hid (riseA a = true → riseA r = true ∧ (sb.drop m).foldl stepB r = R))
  case atStart => exact ⟨0, sa, A1, c1, by omega, rfl, rfl, rfl, HO2.out, by omega, Below.refl _ _, Lib.hid (by rw [List.drop_zero]; exact HR0.out)⟩
  case round =>
    obtain ⟨m, r, A7, c7, hm, hg, rfl, rfl, hown, hrl, yr, HI⟩ := hrel
    have HG := Lib.hid hg
    clear hg HR0
    by_cases hlt : m < k2
    · obtain ⟨ad, x, rfl, had, hd1, _, hc0⟩ := (rb.below yr (Nat.le_refl _)).el (i := m) (by have := K2.out; omega)
      have HI2 := Lib.hid (stepB_drop hd1 HI.out)
      obtain ⟨x1, x2, x3, x4, x5⟩ := x
      obtain ⟨r0, r1, r2, r3, r4⟩ := at_cells hc0
      clear hc0 hd1 HI
      have y3 := ext_alloc wr (.cells #[.int .i64 x1, .int .u8 x2, .int .i64 x3, .int .u64 x4, .string x5] 55)
      have hbx := heap_alloc_new wr (.cells #[.int .i64 x1, .int .u8 x2, .int .i64 x3, .int .u64 x4, .string x5] 55)
      have HBX := Lib.hid hbx
      have HOW := Lib.hid (hown.below y3 (Nat.le_refl _))
      have yw := ext_trans yr y3
      have hsw : w.heap.size ≤ w2.heap.size := y.size
      have hw2 : IntKind.i64.wrap ((m:Int) + 1) = (m : Int) + 1 := IntWalk.i64_in _ (by omega)
      obtain ⟨nr, hnr⟩ : ∃ nr, nr = r.length := ⟨_, rfl⟩
      rw [← hnr] at HOW hrl ⊢
      have NR := Lib.hid hnr
      clear hbx hown hnr
      go_wp2_with (go_at_call 33; refine Hid.out ?_)
      refine Lib.hid ?_
      refine (get_any A7 nr c7 r x1 _ NR.out (HOW.out.rd At.enc_len) (by omega)).mono ?_
      rintro e w3 ⟨⟨v1, v2, v3, v4⟩, has, rfl, hget, y4⟩
      have y5 := ext_alloc w3 (.cells #[.int .u8 v1, .int .i64 v2, .int .u64 v3, .string v4] 47)
      have HBX2 := Lib.hid (((ext_trans y4 y5).block _ (lt_of_some HBX.out)).trans HBX.out)
      have HOW2 := Lib.hid (HOW.out.below (ext_trans y4 y5) (Nat.le_refl _))
      have yz := ext_trans yw (ext_trans y4 y5)
      have HGT : Hid (riseA r = true → (getA r x1).isSome = has) := Lib.hid (fun h => by have := hget.2.2 h; rw [this]; cases has <;> rfl)
      clear hget r0 r1 r2 r3 r4
      cases has with
      | true =>
        go_wp2_with (fail)
        go_roundg (k2 - (m + 1))
        case measure => have := HG.out; omega
        case rel =>
          refine ⟨m + 1, r, A7, c7, by omega, rfl, by rw [NR.out], by go_num, by rw [← NR.out]; exact HOW2.out, by have := NR.out; omega, yz, Lib.hid (fun h => ?_)⟩
          obtain ⟨g1, g2⟩ := HI2.out h
          refine ⟨g1, ?_⟩
          rw [← g2]
          unfold stepB
          rw [if_pos (HGT.out g1)]
      | false =>
        obtain ⟨c0, c1, c2, c3, c4⟩ := box_at HBX2.out
        go_wp2_with (go_at_call 34; refine Hid.out ?_)
        refine Lib.hid ?_
        refine (with_any A7 nr c7 r x1 x2 x3 x4 x5 _ NR.out (HOW2.out.rd At.enc_len) (by omega)).mono ?_
        rintro e w4 ⟨r', hrw, hrl', A8, c8, rfl, ho, y6⟩
        have yq := ext_trans yz y6
        have HO8 := Lib.hid (ho.base_le (B := w.heap.size) (by have := yz.size; omega))
        clear ho c0 c1 c2 c3 c4
        go_wp2_with (fail)
        go_roundg (k2 - (m + 1))
        case measure => have := HG.out; omega
        case rel =>
          refine ⟨m + 1, r', A8, c8, by omega, rfl, rfl, by go_num, HO8.out, by have := NR.out; omega, yq, Lib.hid (fun h => ?_)⟩
          obtain ⟨g1, g2⟩ := HI2.out h
          have e1 := hrw g1
          have e2 : stepB r ⟨x1, x2, x3, x4, x5⟩ = r' := by
            rw [e1]; unfold stepB
            rw [if_neg (by rw [HGT.out g1]; simp)]
          rw [e2] at g2
          refine ⟨?_, g2⟩
          rw [e1]; exact (with_all g1 _).1
    · have hmn : m = k2 := by omega
      have HOW := Lib.hid hown
      have HE : Hid (riseA a = true → r = R) := Lib.hid (fun h => by
        obtain ⟨_, g2⟩ := HI.out h
        rw [List.drop_eq_nil_of_le (by have := K2.out; omega)] at g2
        exact g2)
      clear hown
      go_wp2_with (fail)
      go_ret
      refine ⟨r, fun h => by rw [HE.out h, RR.out], by have := N.out; have := K.out; omega, A7, c7, rfl, HOW.out, ext_trans y yr⟩
end Go.Proofs.Ytfnkjcodcoehcaa
