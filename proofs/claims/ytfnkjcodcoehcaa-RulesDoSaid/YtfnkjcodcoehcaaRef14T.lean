/- The walks of rubricref14.Complete, Typed, hold, Step. -/
import Derived.Test.YtfnkjcodcoehcaaKeys04
import Derived.Test.YtfnkjcodcoehcaaRef06W
namespace Go.Proofs.Ytfnkjcodcoehcaa
open Go.RowKit
set_option linter.unusedVariables false
set_option linter.unusedSimpArgs false

set_option maxRecDepth 100000 in
set_option maxHeartbeats 4000000 in
theorem typed14_any (A_k : Option Addr) (n_k c_k : Nat) (l : List Ky) (A B : Option Addr) (n k c d : Nat) (a b : List At) (w : World) (hnk : n_k = l.length) (r_k : RdKy w w.heap.size A_k l) (hbk : n_k ≤ 140737488355328)
    (hn : n = a.length) (hk : k = b.length) (h1 : RdAt w w.heap.size A a) (h2 : RdAt w w.heap.size B b) (hb : n ≤ 1000000) (hb2 : k ≤ 1000000) :
    Calls Try.prog 19 #[.slice A_k n_k c_k, .slice A n c, .slice B k d] w (NewAt (typedR l a b) w) := by
  have N := Lib.hid hn
  have K := Lib.hid hk
  have N_k := Lib.hid hnk
  have H1 := Lib.hid h1
  have H2 := Lib.hid h2
  obtain ⟨M, hM⟩ : ∃ X, a.foldl (stepL l) [] = X := ⟨_, rfl⟩
  obtain ⟨R, hR⟩ : ∃ X, b.foldl (stepR l) M = X := ⟨_, rfl⟩
  have HM := Lib.hid hM
  have HR := Lib.hid hR
  have e : typedR l a b = R := by unfold typedR; rw [hM, hR]
  rw [e]
  clear hn hk hnk h1 h2 hM hR e
  go_enter Try.func19, Try.ntmps19
  go_wp2_with (fail)
  go_loopg [7, 8] n (fun g ov iv wr => ∃ (m : Nat) (r : List At), m ≤ n ∧ g = n - m ∧ iv = .int .i64 (m : Int) ∧ OwAt wr w.heap.size ov r ∧ r.length ≤ m ∧ Below w.heap.size w wr ∧ Hid ((a.drop m).foldl (stepL l) r = M))
  case atStart => exact ⟨0, [], Nat.zero_le _, rfl, rfl, Ow.nil _ _, by simp, Below.refl _ _, Lib.hid (by rw [List.drop_zero]; exact HM.out)⟩
  case round =>
    obtain ⟨m, r, hm, hg, rfl, hown, hrl, y, HI⟩ := hrel
    have HG := Lib.hid hg
    clear hg HM
    by_cases hlt : m < n
    · obtain ⟨ad, x, rfl, hd1, hx1, hc0⟩ := (H1.out.ext y).elIn (i := m) (by have := N.out; omega)
      have hst := HI.out
      rw [hd1, List.foldl_cons] at hst
      obtain ⟨x1, x2, x3, x4, x5⟩ := x
      have CX := Lib.hid hc0
      obtain ⟨r0, r1, r2, r3, r4⟩ := at_cells CX.out.2
      have HST := Lib.hid hst
      have HLB : Hid ((stepL l r ⟨x1, ⟨x2, x3, x4, x5⟩⟩).length ≤ r.length + 1) := Lib.hid (stepL_len l r _)
      have hw2 : IntKind.i64.wrap ((m:Int) + 1) = (m : Int) + 1 := IntWalk.i64_in _ (by omega)
      clear hst hc0 hd1 hx1 HI
      go_wp2_with (go_at_call 42; refine Hid.out ?_)
      refine Lib.hid ?_
      clear r0 r1 r2 r3 r4
      refine (findR_any A_k n_k c_k l x1 _ N_k.out (r_k.ext y) (by omega)).mono ?_
      rintro e w3 ⟨i, k1, kd, k2, k3, q, ok, rfl, hkk, hbk, y3⟩
      have y4 := ext_alloc w3 (.cells #[.int .i64 i, .bool k1, .int .u8 kd, .bool k2, .bool k3, .int .i64 q] 53)
      have hbx := heap_alloc_new w3 (.cells #[.int .i64 i, .bool k1, .int .u8 kd, .bool k2, .bool k3, .int .i64 q] 53)
      have y5 := ext_trans y3 y4
      replace CX := Lib.hid (CX.out.ext y5)
      have HOW := Lib.hid (hown.below y5 (Nat.le_refl _))
      have y6 := ext_trans y y5
      obtain ⟨r0, r1, r2, r3, r4⟩ := at_cells CX.out.2
      have HBX := Lib.hid hbx
      have HPK : Hid (prK l afterK x1 = (ok && afterK ⟨i, k1, kd, k2, k3, q⟩)) := Lib.hid (by
        unfold prK
        cases hq : findK l x1 with
        | none => rw [hq] at hbk; simp only [Option.isSome_none] at hbk; rw [← hbk]; rfl
        | some z => rw [hq] at hbk hkk; simp only [Option.isSome_some, Option.getD_some] at hbk hkk; rw [← hbk, ← hkk]; rfl)
      clear hkk hbk hbx hown y3 y4 y5
      obtain ⟨a0, a1, a2, a3, a4, a5⟩ := box_ky HBX.out
      by_cases hall : ok = true ∧ k1 = false ∧ k2 = true
      · obtain ⟨rfl, rfl, rfl⟩ := hall
        have HE : Hid (stepL l r ⟨x1, ⟨x2, x3, x4, x5⟩⟩ = with05P r ⟨x1, ⟨x2, x3, x4, x5⟩⟩) := Lib.hid (by unfold stepL; rw [if_pos (by show prK l afterK x1 = true; rw [HPK.out]; rfl)])
        obtain ⟨A1, c1, rfl, _, _⟩ := HOW.out.form
        have RR := Lib.hid (HOW.out.rd At.enc_len)
        have LB : Hid (r.length ≤ 2000000) := Lib.hid (by omega)
        have YS := Lib.hid y6.size
        go_wp2_with (go_at_call 46; refine Hid.out ?_)
        refine Lib.hid ?_
        clear r0 r1 r2 r3 r4 a0 a1 a2 a3 a4 a5
        refine (with05_any A1 r.length c1 r x1 x2 x3 x4 x5 _ rfl (by first | exact RR.out | exact RR.out.ext (ext_drew _ _)) (by have := LB.out; omega)).mono ?_
        rw [← HE.out]
        rintro e w5 ⟨A3, c3, rfl, o3, y3⟩
        have O3 := Lib.hid (o3.base_le (B := w.heap.size) YS.out)
        have Y3 := Lib.hid (ext_trans y6 (by first | exact y3 | exact ext_trans (ext_drew _ _) y3))
        clear o3 y3
        go_wp2_with (fail)
        go_roundg (n - (m + 1))
        case measure => have := HG.out; omega
        case rel => exact ⟨m + 1, _, by omega, rfl, by go_num, O3.out, by have := HLB.out; omega, Y3.out, HST⟩
      · have HE : Hid (stepL l r ⟨x1, ⟨x2, x3, x4, x5⟩⟩ = r) := Lib.hid (by
          unfold stepL; rw [if_neg (show ¬ prK l afterK x1 = true from fun h => by
            rw [HPK.out] at h; unfold afterK at h; simp only [Bool.and_eq_true, Bool.not_eq_true'] at h; exact hall ⟨h.1, h.2.1, h.2.2⟩)])
        have HN := Lib.hid HST.out
        rw [HE.out] at HN
        clear HE HST HLB HPK
        cases ok <;> cases k1 <;> cases k2
        all_goals
          first
          | exact absurd ⟨rfl, rfl, rfl⟩ hall
          | skip
            clear hall
            go_wp2_with (fail)
            go_roundg (n - (m + 1))
            case measure => have := HG.out; omega
            case rel => exact ⟨m + 1, r, by omega, rfl, by go_num, by first | exact HOW.out | exact HOW.out.drewN _, by omega, by first | exact y6 | exact below_drewN y6 _, HN⟩
    · have hlt' : ¬ (m : Int) < (n : Int) := by omega
      have hR : r = M := by
        have h := HI.out
        rw [List.drop_eq_nil_of_le (by have := N.out; omega)] at h
        exact h
      subst hR
      have HOW := Lib.hid hown
      clear hown
      go_wp2_with (fail)
      go_loopg [7, 11] k (fun g ov iv wr => ∃ (m : Nat) (r : List At), m ≤ k ∧ g = k - m ∧ iv = .int .i64 (m : Int) ∧ OwAt wr w.heap.size ov r ∧ r.length ≤ n + m ∧ Below w.heap.size w wr ∧ Hid ((b.drop m).foldl (stepR l) r = R))
      case atStart => exact ⟨0, r, Nat.zero_le _, rfl, rfl, HOW.out, by omega, y, Lib.hid (by rw [List.drop_zero]; exact HR.out)⟩
      case round =>
        clear HOW hrl y
        obtain ⟨m, r, hm, hg, rfl, hown, hrl, y, HI⟩ := hrel
        have HG := Lib.hid hg
        clear hg HR
        by_cases hlt : m < k
        · obtain ⟨ad, x, rfl, hd1, hx1, hc0⟩ := (H2.out.ext y).elIn (i := m) (by have := K.out; omega)
          have hst := HI.out
          rw [hd1, List.foldl_cons] at hst
          obtain ⟨x1, x2, x3, x4, x5⟩ := x
          have CX := Lib.hid hc0
          obtain ⟨r0, r1, r2, r3, r4⟩ := at_cells CX.out.2
          have HST := Lib.hid hst
          have HLB : Hid ((stepR l r ⟨x1, ⟨x2, x3, x4, x5⟩⟩).length ≤ r.length + 1) := Lib.hid (stepR_len l r _)
          have hw2 : IntKind.i64.wrap ((m:Int) + 1) = (m : Int) + 1 := IntWalk.i64_in _ (by omega)
          clear hst hc0 hd1 hx1 HI
          go_wp2_with (go_at_call 42; refine Hid.out ?_)
          refine Lib.hid ?_
          clear r0 r1 r2 r3 r4
          refine (findR_any A_k n_k c_k l x1 _ N_k.out (r_k.ext y) (by omega)).mono ?_
          rintro e w3 ⟨i, k1, kd, k2, k3, q, ok, rfl, hkk, hbk, y3⟩
          have y4 := ext_alloc w3 (.cells #[.int .i64 i, .bool k1, .int .u8 kd, .bool k2, .bool k3, .int .i64 q] 53)
          have hbx := heap_alloc_new w3 (.cells #[.int .i64 i, .bool k1, .int .u8 kd, .bool k2, .bool k3, .int .i64 q] 53)
          have y5 := ext_trans y3 y4
          replace CX := Lib.hid (CX.out.ext y5)
          have HOW := Lib.hid (hown.below y5 (Nat.le_refl _))
          have y6 := ext_trans y y5
          obtain ⟨r0, r1, r2, r3, r4⟩ := at_cells CX.out.2
          have HBX := Lib.hid hbx
          have HPK : Hid (prK l beforeK x1 = (ok && beforeK ⟨i, k1, kd, k2, k3, q⟩)) := Lib.hid (by
            unfold prK
            cases hq : findK l x1 with
            | none => rw [hq] at hbk; simp only [Option.isSome_none] at hbk; rw [← hbk]; rfl
            | some z => rw [hq] at hbk hkk; simp only [Option.isSome_some, Option.getD_some] at hbk hkk; rw [← hbk, ← hkk]; rfl)
          clear hkk hbk hbx hown y3 y4 y5
          obtain ⟨A1, c1, rfl, _, _⟩ := HOW.out.form
          go_wp2_with (go_at_call 43; refine Hid.out ?_)
          refine Lib.hid ?_
          clear r0 r1 r2 r3 r4
          refine (get05_any A1 r.length c1 r x1 _ rfl (HOW.out.rd At.enc_len) (by omega)).mono ?_
          rintro e w4 ⟨v1, v2, v3, v4, hs, rfl, -, hgs, y3⟩
          have y4 := ext_alloc w4 (.cells #[.int .u8 v1, .int .i64 v2, .int .u64 v3, .string v4] 47)
          have y5 := ext_trans y3 y4
          replace CX := Lib.hid (CX.out.ext y5)
          replace HBX := Lib.hid ((y5.block _ (lt_of_some HBX.out)).trans HBX.out)
          replace HOW := Lib.hid (HOW.out.below y5 (Nat.le_refl _))
          replace y6 := ext_trans y6 y5
          obtain ⟨r0, r1, r2, r3, r4⟩ := at_cells CX.out.2
          have HGS := Lib.hid hgs
          clear hgs y3 y4 y5
          obtain ⟨a0, a1, a2, a3, a4, a5⟩ := box_ky HBX.out
          by_cases hall : ok = true ∧ k1 = false ∧ k3 = true ∧ hs = false
          · obtain ⟨rfl, rfl, rfl, rfl⟩ := hall
            have HE : Hid (stepR l r ⟨x1, ⟨x2, x3, x4, x5⟩⟩ = with05P r ⟨x1, ⟨x2, x3, x4, x5⟩⟩) := Lib.hid (by unfold stepR; rw [if_pos ⟨by show prK l beforeK x1 = true; rw [HPK.out]; rfl, HGS.out⟩])
            have RR := Lib.hid (HOW.out.rd At.enc_len)
            have LB : Hid (r.length ≤ 2000000) := Lib.hid (by omega)
            have YS := Lib.hid y6.size
            go_wp2_with (go_at_call 46; refine Hid.out ?_)
            refine Lib.hid ?_
            clear r0 r1 r2 r3 r4 a0 a1 a2 a3 a4 a5
            refine (with05_any A1 r.length c1 r x1 x2 x3 x4 x5 _ rfl (by first | exact RR.out | exact RR.out.ext (ext_drew _ _)) (by have := LB.out; omega)).mono ?_
            rw [← HE.out]
            rintro e w5 ⟨A3, c3, rfl, o3, y3⟩
            have O3 := Lib.hid (o3.base_le (B := w.heap.size) YS.out)
            have Y3 := Lib.hid (ext_trans y6 (by first | exact y3 | exact ext_trans (ext_drew _ _) y3))
            clear o3 y3
            go_wp2_with (fail)
            go_roundg (k - (m + 1))
            case measure => have := HG.out; omega
            case rel => exact ⟨m + 1, _, by omega, rfl, by go_num, O3.out, by have := HLB.out; omega, Y3.out, HST⟩
          · have HE : Hid (stepR l r ⟨x1, ⟨x2, x3, x4, x5⟩⟩ = r) := Lib.hid (by
              unfold stepR; rw [if_neg (fun h => by
                obtain ⟨h, h'⟩ := h
                rw [show prK l beforeK x1 = _ from HPK.out] at h; rw [show (getA r x1).isSome = hs from HGS.out] at h'; unfold beforeK at h; simp only [Bool.and_eq_true, Bool.not_eq_true'] at h; exact hall ⟨h.1, h.2.1, h.2.2, h'⟩)])
            have HN := Lib.hid HST.out
            rw [HE.out] at HN
            clear HE HST HLB HPK
            cases ok <;> cases k1 <;> cases k3 <;> cases hs
            all_goals
              first
              | exact absurd ⟨rfl, rfl, rfl, rfl⟩ hall
              | skip
                clear hall
                go_wp2_with (fail)
                go_roundg (k - (m + 1))
                case measure => have := HG.out; omega
                case rel => exact ⟨m + 1, r, by omega, rfl, by go_num, by first | exact HOW.out | exact HOW.out.drewN _, by omega, by first | exact y6 | exact below_drewN y6 _, HN⟩
        · have hlt' : ¬ (m : Int) < (k : Int) := by omega
          have hR : r = R := by
            have h := HI.out
            rw [List.drop_eq_nil_of_le (by have := K.out; omega)] at h
            exact h
          subst hR
          have HOW := Lib.hid hown
          clear hown
          obtain ⟨A', c', rfl, _, _⟩ := HOW.out.form
          go_wp2_with (fail)
          go_ret
          exact ⟨A', c', rfl, HOW.out, y⟩
end Go.Proofs.Ytfnkjcodcoehcaa
