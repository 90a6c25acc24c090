/- Merged texts: Ref23, Known23, Great23, Same15D. -/
import Derived.Test.YtfnkjcodcoehcaaGreatDoorP33
import Derived.Test.YtfnkjcodcoehcaaGreatDoorP15
import Derived.Test.YtfnkjcodcoehcaaGreatDoorP21
import Derived.Test.YtfnkjcodcoehcaaGreatDoorP16
import Derived.Test.YtfnkjcodcoehcaaGreatDoorP24
import Derived.Test.YtfnkjcodcoehcaaGreatDoorP34
import Derived.Test.YtfnkjcodcoehcaaGreatDoorP30
import Derived.Test.YtfnkjcodcoehcaaGreatDoorP2
import Derived.Test.YtfnkjcodcoehcaaGreatDoorP23
namespace Go.Proofs.YtfnkjcodcoehcaaGreatDoor
open Go.RowKit
set_option linter.unusedVariables false
set_option linter.unusedSimpArgs false

theorem begD_stop {d e : List Cl} {i : Nat} (hi : d.take i = e.take i) (h : i ≤ min d.length e.length - 1) (hs : min d.length e.length - 1 ≤ i ∨ ∃ a b, d[i]? = some a ∧ e[i]? = some b ∧ a ≠ b) : begD d e = i := by
  unfold begD
  have hk := cpl_at i d e (by omega) (by omega) hi
  rcases hs with hs | ⟨a, b, ha, hb, hne⟩
  · rw [hk]; omega
  · obtain ⟨hl, hv⟩ := List.getElem?_eq_some_iff.1 ha
    obtain ⟨hl2, hv2⟩ := List.getElem?_eq_some_iff.1 hb
    rw [List.drop_eq_getElem_cons hl, List.drop_eq_getElem_cons hl2, hv, hv2, cpl_cons_ne hne] at hk
    rw [hk]; omega
set_option maxRecDepth 100000 in
set_option maxHeartbeats 3200000 in
theorem begin23_any (A B : Option Addr) (n m c c' : Nat) (d e : List ClS) (w : World) (hn : n = d.length) (hm : m = e.length) (h1 : RdCl w w.heap.size A d) (h2 : RdCl w w.heap.size B e) (b1 : n ≤ 1000000) (b2 : m ≤ 1000000) (p1 : 1 ≤ n) (p2 : 1 ≤ m)
    (hs1 : ∀ x ∈ d, x.c.s.length ≤ 140737488355328) (hs2 : ∀ x ∈ e, x.c.s.length ≤ 140737488355328) :
    Calls Tryz.prog 84 #[.slice A n c, .slice B m c'] w (Quiet (.int .i64 (begD (clsOf d) (clsOf e))) w) := by
  have N := Lib.hid hn
  have M := Lib.hid hm
  have H1 := Lib.hid h1
  have H2 := Lib.hid h2
  have S1 := Lib.hid hs1
  have S2 := Lib.hid hs2
  obtain ⟨K, hK⟩ : ∃ K, min n m - 1 = K := ⟨_, rfl⟩
  have HK : Hid (min n m - 1 = K ∧ K + 1 ≤ n ∧ K + 1 ≤ m ∧ (K + 1 = n ∨ K + 1 = m)) := Lib.hid (by omega)
  have L1 := Lib.hid (clsOf_len d)
  have L2 := Lib.hid (clsOf_len e)
  generalize hR : begD (clsOf d) (clsOf e) = R
  have ST : Hid (∀ i, (clsOf d).take i = (clsOf e).take i → i ≤ K → (K ≤ i ∨ ∃ a b, (clsOf d)[i]? = some a ∧ (clsOf e)[i]? = some b ∧ a ≠ b) → R = i) := Lib.hid (fun i ht hi hs => by
    rw [← hR]
    exact begD_stop ht (by rw [L1.out, L2.out, ← hn, ← hm]; omega) (by rw [L1.out, L2.out, ← hn, ← hm, hK]; exact hs))
  have w1 : IntKind.i64.wrap ((n : Int) - 1) = (n : Int) - 1 := IntWalk.i64_in _ (by omega)
  have w2 : IntKind.i64.wrap ((m : Int) - 1) = (m : Int) - 1 := IntWalk.i64_in _ (by omega)
  clear hn hm h1 h2 hs1 hs2 hR hK
  go_enter Tryz.func84, Tryz.ntmps84
  go_wp2_with (fail)
  go_loopg [5] (K + 1) (fun g iv wr => ∃ i dr : Nat, i ≤ K ∧ g = K + 1 - i ∧ iv = .int .i64 (i : Int) ∧ wr = w.drewN dr ∧ Hid ((clsOf d).take i = (clsOf e).take i))
  case atStart => exact ⟨0, 0, Nat.zero_le _, rfl, rfl, rfl, Lib.hid rfl⟩
  case round =>
    obtain ⟨i, dr, hi, hg, rfl, rfl, HI⟩ := hrel
    have HG := Lib.hid hg
    clear hg
    have y := ext_drew w dr
    generalize hwq : w.drewN dr = wq at *
    have HWQ := Lib.hid hwq
    clear hwq
    by_cases hl1 : (i : Int) < (n : Int) - 1
    · have t1 : decide ((i : Int) < (n : Int) - 1) = true := decide_eq_true hl1
      by_cases hl2 : (i : Int) < (m : Int) - 1
      · have t2 : decide ((i : Int) < (m : Int) - 1) = true := decide_eq_true hl2
        have q1 : i < d.length := by have := N.out; clear w1 w2; omega
        have q2 : i < e.length := by have := M.out; clear w1 w2; omega
        have hik : i < K := by have := HK.out; clear w1 w2; omega
        have hlt1 : (i : Int) < (n : Int) := by clear w1 w2; omega
        have hlt2 : (i : Int) < (m : Int) := by clear w1 w2; omega
        obtain ⟨ad, x, rfl, _, _, hx1, hc1⟩ := (H1.out.ext y).1.el q1
        obtain ⟨ad2, x', rfl, _, _, hx2, hc2⟩ := (H2.out.ext y).1.el q2
        have hm1 := List.mem_of_getElem? hx1
        have hm2 := List.mem_of_getElem? hx2
        have p1 := Lib.hid ((H1.out.ext y).2 x hm1)
        have p2 := Lib.hid ((H2.out.ext y).2 x' hm2)
        have b1' := Lib.hid (S1.out x hm1)
        have b2' := Lib.hid (S2.out x' hm2)
        have X1 := Lib.hid (clsOf_at hx1)
        have X2 := Lib.hid (clsOf_at hx2)
        clear hx1 hx2 hm1 hm2
        obtain ⟨⟨r1, s1⟩, As1, cs1⟩ := x
        obtain ⟨⟨r2, s2⟩, As2, cs2⟩ := x'
        obtain ⟨z0, z1⟩ := cl_cells hc1
        obtain ⟨u0, u1⟩ := cl_cells hc2
        have hw2 : IntKind.i64.wrap ((i:Int) + 1) = (i : Int) + 1 := IntWalk.i64_in _ (by clear w1 w2; omega)
        clear hc1 hc2 q1 q2
        by_cases hr : r1 = r2
        · subst hr
          have hrr : (r1 == r1) = true := by simp
          cases hd : decide (s1 = s2)
          all_goals
            have HD := Lib.hid hd
            clear hd
            have HSM : Hid (∀ v : Nat, Calls Tryz.prog 39 #[.slice As1 s1.length cs1, .slice As2 s2.length cs2] (wq.drewN v) (fun e w' => e = .returned (.bool _) ∧ ∃ m, w' = (wq.drewN v).drewN m)) := Lib.hid (fun v => by
              have h := sameA_any As1 As2 s1.length s2.length cs1 cs2 s1 s2 (wq.drewN v) rfl rfl (p1.out.ext (ext_drew _ v)) (p2.out.ext (ext_drew _ v)) b1'.out b2'.out
              rw [HD.out] at h
              exact h)
            go_wp2_with (fail)
            go_quiet ((go_at_call 39; exact Calls.quiet_of (HSM.out _)))
          · have HRI := Lib.hid (ST.out i HI.out hi (.inr ⟨_, _, X1.out, X2.out, fun e => of_decide_eq_false HD.out (Cl.mk.inj e).2⟩))
            clear w1 w2
            go_wp2_with (fail)
            go_ret
            exact ⟨ret_int (by rw [HRI.out]), dr + nq, (by rw [← HWQ.out]; exact World.drewN_drewN _ _ _)⟩
          · have e2 : s1 = s2 := of_decide_eq_true HD.out
            have HI2 : Hid ((clsOf d).take (i + 1) = (clsOf e).take (i + 1)) := Lib.hid (by rw [List.take_add_one, List.take_add_one, HI.out, X1.out, X2.out, e2])
            clear w1 w2 e2
            go_wp2_with (fail)
            go_roundg (K + 1 - (i + 1))
            case measure => have := HG.out; clear hw2; omega
            case rel => exact ⟨i + 1, dr + nq, by clear hw2; omega, rfl, by go_num, (by rw [← HWQ.out]; exact World.drewN_drewN _ _ _), HI2⟩
        · have hrr : (r1 == r2) = false := beq_eq_false_iff_ne.2 hr
          have HRI := Lib.hid (ST.out i HI.out hi (.inr ⟨_, _, X1.out, X2.out, fun e => hr (Cl.mk.inj e).1⟩))
          clear hr
          go_wp2_with (fail)
          go_quiet (fail)
          clear w1 w2
          go_wp2_with (fail)
          go_ret
          exact ⟨ret_int (by rw [HRI.out]), dr + nq, (by rw [← HWQ.out]; exact World.drewN_drewN _ _ _)⟩
      · have t2 : decide ((i : Int) < (m : Int) - 1) = false := decide_eq_false hl2
        have HRI := Lib.hid (ST.out i HI.out hi (.inl (by have := HK.out; clear w1 w2; omega)))
        go_wp2_with (fail)
        go_quiet (fail)
        clear w1 w2
        go_wp2_with (fail)
        go_ret
        exact ⟨ret_int (by rw [HRI.out]), dr + nq, (by rw [← HWQ.out]; exact World.drewN_drewN _ _ _)⟩
    · have t1 : decide ((i : Int) < (n : Int) - 1) = false := decide_eq_false hl1
      have HRI := Lib.hid (ST.out i HI.out hi (.inl (by have := HK.out; clear w1 w2; omega)))
      go_wp2_with (fail)
      go_quiet (fail)
      clear w1 w2
      go_wp2_with (fail)
      go_ret
      exact ⟨ret_int (by rw [HRI.out]), dr + nq, (by rw [← HWQ.out]; exact World.drewN_drewN _ _ _)⟩
/-- the end behind a beginning, from n cells on -/
theorem endD_here {d e : List Cl} {b n : Nat} (h : endD (d.drop b) (e.drop b) = n + cpl (((d.drop b).reverse.drop n).map (·.r)) (((e.drop b).reverse.drop n).map (·.r)))
    {x z : Cl} (hn1 : n < d.length - b) (hn2 : n < e.length - b) (hx : d[d.length - 1 - n]? = some x) (hz : e[e.length - 1 - n]? = some z) :
    (x.r ≠ z.r → endD (d.drop b) (e.drop b) = n) ∧ (x.r = z.r → endD (d.drop b) (e.drop b) = n + 1 + cpl (((d.drop b).reverse.drop (n + 1)).map (·.r)) (((e.drop b).reverse.drop (n + 1)).map (·.r))) :=
  endD_at h (by rw [List.length_drop]; exact hn1) (by rw [List.length_drop]; exact hn2) (a := x) (b := z) (by rw [List.getElem?_drop, List.length_drop, show b + (d.length - b - 1 - n) = d.length - 1 - n by omega]; exact hx) (by rw [List.getElem?_drop, List.length_drop, show b + (e.length - b - 1 - n) = e.length - 1 - n by omega]; exact hz)
set_option maxRecDepth 100000 in
set_option maxHeartbeats 3200000 in
theorem end23_any (A B : Option Addr) (n m c c' b : Nat) (d e : List ClS) (w : World) (hn : n = d.length) (hm : m = e.length) (h1 : RdCs w w.heap.size A d) (h2 : RdCs w w.heap.size B e) (b1 : n ≤ 1000000) (b2 : m ≤ 1000000) (p1 : b < n) (p2 : b < m) :
    Calls Tryz.prog 85 #[.slice A n c, .slice B m c', .int .i64 (b : Int)] w (Quiet (.int .i64 (endD ((clsOf d).drop b) ((clsOf e).drop b))) w) := by
  have N := Lib.hid hn
  have M := Lib.hid hm
  have H1 := Lib.hid h1
  have H2 := Lib.hid h2
  have L1 := Lib.hid (clsOf_len d)
  have L2 := Lib.hid (clsOf_len e)
  obtain ⟨n', hn'⟩ : ∃ X, n - b = X := ⟨_, rfl⟩
  obtain ⟨m', hm'⟩ : ∃ X, m - b = X := ⟨_, rfl⟩
  have HD : Hid (n = b + n' ∧ m = b + m' ∧ 1 ≤ n' ∧ 1 ≤ m') := Lib.hid (by omega)
  have e1 : (n : Int) - (b : Int) = (n' : Int) := by omega
  have e2 : (m : Int) - (b : Int) = (m' : Int) := by omega
  have w1 : IntKind.i64.wrap ((n : Int) - (b : Int)) = (n' : Int) := by rw [e1]; exact IntWalk.i64_in _ (by omega)
  have w2 : IntKind.i64.wrap ((m : Int) - (b : Int)) = (m' : Int) := by rw [e2]; exact IntWalk.i64_in _ (by omega)
  generalize hR : endD ((clsOf d).drop b) ((clsOf e).drop b) = R
  have HR := Lib.hid hR
  clear hn hm h1 h2 hR e1 e2 hn' hm'
  go_enter Tryz.func85, Tryz.ntmps85
  go_wp2_with (fail)
  go_loopg [7] (n' - 1) (fun g iv wr => ∃ i dr : Nat, 1 ≤ i ∧ i ≤ n' ∧ i ≤ m' ∧ g = n' - i ∧ iv = .int .i64 (i : Int) ∧ wr = w.drewN dr ∧ Hid (endD ((clsOf d).drop b) ((clsOf e).drop b) = i + cpl ((((clsOf d).drop b).reverse.drop i).map (·.r)) ((((clsOf e).drop b).reverse.drop i).map (·.r))))
  case atStart => exact ⟨1, 0, by omega, by have := HD.out; clear w1 w2; omega, by have := HD.out; clear w1 w2; omega, rfl, rfl, rfl, Lib.hid rfl⟩
  case round =>
    obtain ⟨i, dr, hi0, hi1, hi2, hg, rfl, rfl, HI⟩ := hrel
    have HG := Lib.hid hg
    clear hg
    have y := ext_drew w dr
    generalize hwq : w.drewN dr = wq at *
    have HWQ := Lib.hid hwq
    clear hwq
    by_cases hl1 : i < n'
    · have t1 : decide ((i : Int) < (n' : Int)) = true := decide_eq_true (by clear w1 w2; omega)
      have t1' : (i : Int) < (n' : Int) := by clear w1 w2; omega
      by_cases hl2 : i < m'
      · have t2 : decide ((i : Int) < (m' : Int)) = true := decide_eq_true (by clear w1 w2; omega)
        have t2' : (i : Int) < (m' : Int) := by clear w1 w2; omega
        have q1 : n - 1 - i < d.length := by have := N.out; have := HD.out; clear w1 w2; omega
        have q2 : m - 1 - i < e.length := by have := M.out; have := HD.out; clear w1 w2; omega
        obtain ⟨ad, x, rfl, _, _, hx, hcx⟩ := (H1.out.ext y).el q1
        obtain ⟨ad2, z, rfl, _, _, hz, hcz⟩ := (H2.out.ext y).el q2
        have EA := Lib.hid (endD_here HI.out (by rw [L1.out]; have := N.out; have := HD.out; clear w1 w2; omega) (by rw [L2.out]; have := M.out; have := HD.out; clear w1 w2; omega) (x := x.c) (z := z.c) (by rw [L1.out, ← N.out]; exact clsOf_at hx) (by rw [L2.out, ← M.out]; exact clsOf_at hz))
        obtain ⟨⟨r1, s1⟩, As1, cs1⟩ := x
        obtain ⟨⟨r2, s2⟩, As2, cs2⟩ := z
        obtain ⟨z0, -⟩ := cl_cells hcx
        obtain ⟨u0, -⟩ := cl_cells hcz
        obtain ⟨j1, hj1⟩ : ∃ X, n - 1 - i = X := ⟨_, rfl⟩
        obtain ⟨j2, hj2⟩ : ∃ X, m - 1 - i = X := ⟨_, rfl⟩
        rw [hj1] at z0
        rw [hj2] at u0
        have e3 : (n : Int) - 1 - (i : Int) = (j1 : Int) := by have := HD.out; clear w1 w2; omega
        have e4 : (m : Int) - 1 - (i : Int) = (j2 : Int) := by have := HD.out; clear w1 w2; omega
        have q3 : IntKind.i64.wrap ((n : Int) - 1) = (n : Int) - 1 := IntWalk.i64_in _ (by clear w1 w2; omega)
        have q4 : IntKind.i64.wrap ((m : Int) - 1) = (m : Int) - 1 := IntWalk.i64_in _ (by clear w1 w2; omega)
        have q5 : IntKind.i64.wrap ((n : Int) - 1 - (i : Int)) = (j1 : Int) := by rw [e3]; exact IntWalk.i64_in _ (by clear w1 w2 q3 q4; omega)
        have q6 : IntKind.i64.wrap ((m : Int) - 1 - (i : Int)) = (j2 : Int) := by rw [e4]; exact IntWalk.i64_in _ (by clear w1 w2 q3 q4 q5; omega)
        have b3 : j1 < n := by have := HD.out; clear w1 w2 q3 q4 q5 q6; omega
        have b4 : j2 < m := by have := HD.out; clear w1 w2 q3 q4 q5 q6; omega
        have b5 : (j1 : Int) < (n : Int) := by clear w1 w2 q3 q4 q5 q6; omega
        have b6 : (j2 : Int) < (m : Int) := by clear w1 w2 q3 q4 q5 q6; omega
        have hw2 : IntKind.i64.wrap ((i:Int) + 1) = (i : Int) + 1 := IntWalk.i64_in _ (by have := HD.out; clear w1 w2 q3 q4 q5 q6; omega)
        clear hx hz hcx hcz q1 q2 hj1 hj2 e3 e4
        by_cases hr : r1 = r2
        · subst hr
          have hrr : (r1 == r1) = true := by simp
          have HI2 := Lib.hid (EA.out.2 rfl)
          clear EA
          go_wp2_with (fail)
          go_quiet (fail)
          clear w1 w2 q3 q4 q5 q6
          go_wp2_with (fail)
          go_roundg (n' - (i + 1))
          case measure => have := HG.out; clear hw2; omega
          case rel => exact ⟨i + 1, dr + nq, by clear hw2; omega, by clear hw2; omega, by clear hw2; omega, rfl, by go_num, (by rw [← HWQ.out]; exact World.drewN_drewN _ _ _), HI2⟩
        · have hrr : (r1 == r2) = false := beq_eq_false_iff_ne.2 hr
          have HE := Lib.hid (HR.out.symm.trans (EA.out.1 hr))
          clear hr EA
          go_wp2_with (fail)
          go_quiet (fail)
          clear w1 w2 q3 q4 q5 q6 hw2
          go_wp2_with (fail)
          go_ret
          exact ⟨ret_int (by rw [HE.out]), dr + nq, (by rw [← HWQ.out]; exact World.drewN_drewN _ _ _)⟩
      · have t2 : decide ((i : Int) < (m' : Int)) = false := decide_eq_false (by clear w1 w2; omega)
        have t2' : ¬ (i : Int) < (m' : Int) := by clear w1 w2; omega
        have HE := Lib.hid (HR.out.symm.trans (endD_over HI.out (.inr (by rw [List.length_drop, L2.out]; have := M.out; have := HD.out; clear w1 w2; omega))))
        go_wp2_with (fail)
        go_quiet (fail)
        clear w1 w2
        go_wp2_with (fail)
        go_ret
        exact ⟨ret_int (by rw [HE.out]), dr + nq, (by rw [← HWQ.out]; exact World.drewN_drewN _ _ _)⟩
    · have t1 : decide ((i : Int) < (n' : Int)) = false := decide_eq_false (by clear w1 w2; omega)
      have t1' : ¬ (i : Int) < (n' : Int) := by clear w1 w2; omega
      have HE := Lib.hid (HR.out.symm.trans (endD_over HI.out (.inl (by rw [List.length_drop, L1.out]; have := N.out; have := HD.out; clear w1 w2; omega))))
      go_wp2_with (fail)
      go_quiet (fail)
      clear w1 w2
      go_wp2_with (fail)
      go_ret
      exact ⟨ret_int (by rw [HE.out]), dr + nq, (by rw [← HWQ.out]; exact World.drewN_drewN _ _ _)⟩
end Go.Proofs.YtfnkjcodcoehcaaGreatDoor
namespace Go.Proofs.YtfnkjcodcoehcaaGreatDoor
open Go.RowKit
set_option linter.unusedVariables false
set_option linter.unusedSimpArgs false

def kK23 : List Ky := [⟨1, false, 1, false, false, 0⟩]
def dA23 : List ClS := [⟨⟨97, []⟩, none, 0⟩, ⟨⟨98, []⟩, none, 0⟩, ⟨⟨99, []⟩, none, 0⟩, ⟨⟨10, []⟩, none, 0⟩]
def dB23 : List ClS := [⟨⟨97, []⟩, none, 0⟩, ⟨⟨120, []⟩, none, 0⟩, ⟨⟨99, []⟩, none, 0⟩, ⟨⟨10, []⟩, none, 0⟩]
theorem dA23_may : mayD kK23 (clsOf dA23) = 0 := by decide +kernel
theorem dB23_may : mayD kK23 (clsOf dB23) = 0 := by decide +kernel
theorem d23_ops : mkOps (diffM (clsOf dA23) (clsOf dB23)) = [opR 1 [], opI [120] [], opD 1] := by decide +kernel
def lit23 (b : Nat) : List OpS := [⟨opR 1 [], none, 0, none, 0, none, 0⟩, ⟨opI [120] [], some ⟨b, 0, none⟩, 1, none, 0, none, 0⟩, ⟨opD 1, none, 0, none, 0, none, 0⟩]
/-- cells without sets, in a new block -/
theorem rdcl_nil {w : World} {B : Nat} {A : Option Addr} {l : List ClS} (h : RdCs w B A l) (hl : ∀ x ∈ l, x.c.s = []) : RdCl w B A l := ⟨h, fun x hx => by rw [hl x hx]; exact Rd.nil⟩

set_option maxRecDepth 100000 in
set_option maxHeartbeats 3200000 in
theorem known23_any (w : World) (hT : Lib.Utf8Tabs 1 2 w) :
    Calls Tryz.prog 27 #[] w fun e w' => e = .returned (.bool true) ∧ Below w.heap.size w w' := by
  go_enter Tryz.func27, Tryz.ntmps27
  go_wp2_with (go_at_call 13; refine Hid.out ?_)
  refine Lib.hid ?_
  have y := ext_alloc w (.cells #[.int .i64 1, .bool false, .int .u8 1, .bool false, .bool false, .int .i64 0] 97)
  have rk : RdKy _ _ _ kK23 := Rd.new (enc := Ky.enc) (size := 6) Ky.enc_len w 97 kK23 (cs := #[.int .i64 1, .bool false, .int .u8 1, .bool false, .bool false, .int .i64 0]) rfl rfl
  refine (new_any (some ⟨w.heap.size, 0, none⟩) 1 1 kK23 _ rfl rk (by omega)).mono ?_
  rintro e v1 ⟨y1, ⟨hm, s, rfl, hS⟩ | ⟨hm, rfl⟩⟩
  rotate_left
  · have : mayKs kK23 = true := by decide +kernel
    rw [this] at hm; cases hm
  clear hm rk
  replace y := ext_trans y y1
  clear y1
  go_wp2_with (go_at_call 28; refine Hid.out ?_)
  refine Lib.hid ?_
  have ya := ext_alloc v1 (.cells #[.int .i32 97, .slice none 0 0, .int .i32 98, .slice none 0 0, .int .i32 99, .slice none 0 0, .int .i32 10, .slice none 0 0] 38)
  have ra : RdCs _ _ _ dA23 := Rd.new (enc := ClS.enc) (size := 2) ClS.enc_len v1 38 dA23 (cs := #[.int .i32 97, .slice none 0 0, .int .i32 98, .slice none 0 0, .int .i32 99, .slice none 0 0, .int .i32 10, .slice none 0 0]) rfl rfl
  have z1 : (v1.alloc (.cells #[.int .i32 97, .slice none 0 0, .int .i32 98, .slice none 0 0, .int .i32 99, .slice none 0 0, .int .i32 10, .slice none 0 0] 38)).heap.size = v1.heap.size + 1 := by simp
  generalize v1.alloc (.cells #[.int .i32 97, .slice none 0 0, .int .i32 98, .slice none 0 0, .int .i32 99, .slice none 0 0, .int .i32 10, .slice none 0 0] 38) = u1 at *
  have yb := ext_alloc u1 (.cells #[.int .i32 97, .slice none 0 0, .int .i32 120, .slice none 0 0, .int .i32 99, .slice none 0 0, .int .i32 10, .slice none 0 0] 38)
  have rb : RdCs _ _ _ dB23 := Rd.new (enc := ClS.enc) (size := 2) ClS.enc_len u1 38 dB23 (cs := #[.int .i32 97, .slice none 0 0, .int .i32 120, .slice none 0 0, .int .i32 99, .slice none 0 0, .int .i32 10, .slice none 0 0]) rfl (b := v1.heap.size + 1) z1.symm
  generalize u1.alloc (.cells #[.int .i32 97, .slice none 0 0, .int .i32 120, .slice none 0 0, .int .i32 99, .slice none 0 0, .int .i32 10, .slice none 0 0] 38) = u2 at *
  have nA : ∀ x ∈ dA23, x.c.s = [] ∧ x.cs = 0 := fun x hx => by
    simp only [dA23, List.mem_cons, List.not_mem_nil, or_false] at hx
    rcases hx with rfl | rfl | rfl | rfl <;> exact ⟨rfl, rfl⟩
  have nB : ∀ x ∈ dB23, x.c.s = [] ∧ x.cs = 0 := fun x hx => by
    simp only [dB23, List.mem_cons, List.not_mem_nil, or_false] at hx
    rcases hx with rfl | rfl | rfl | rfl <;> exact ⟨rfl, rfl⟩
  replace y := ext_trans y (ext_trans ya yb)
  have HT2 := Lib.hid (Utf8Tabs_below hT y)
  have Y2 := Lib.hid y
  refine (cdiff_ok s kK23 (some ⟨v1.heap.size, 0, none⟩) (some ⟨v1.heap.size + 1, 0, none⟩) 4 4 4 4 dA23 dB23 u2 rfl rfl (rdcl_nil (ra.ext yb) (fun x hx => (nA x hx).1)) (rdcl_nil rb (fun x hx => (nB x hx).1)) (by omega) (by omega) (by omega) (by omega) (hS.ext (ext_trans ya yb))
    (fun x hx => by rw [(nA x hx).1]; exact ⟨by simp, fun c hc => by cases hc⟩) (fun x hx => by rw [(nB x hx).1]; exact ⟨by simp, fun c hc => by cases hc⟩) (fun x hx => by rw [(nA x hx).1, (nA x hx).2]; exact ⟨Nat.le_refl _, by unfold maxLen; omega⟩) HT2.out dA23_may dB23_may).mono ?_
  rw [d23_ops]
  clear ya yb ra rb z1 nA nB y hS HT2
  rintro e u3 ⟨A3, c3, l3, rfl, ho3, hw3, hp3, y3⟩
  have Y3 := Lib.hid (ext_trans Y2.out y3)
  have hlen : l3.length = 3 := by
    have h := congrArg List.length ho3
    unfold osOf at h
    simpa using h
  have OB : ∀ x ∈ l3, x.o.r.length ≤ 100000000 ∧ x.o.s.length ≤ 100000000 ∧ x.o.p.length ≤ 100000000 := fun x hx => by
    have hm : x.o ∈ osOf l3 := by unfold osOf; exact List.mem_map_of_mem hx
    rw [ho3] at hm
    simp only [List.mem_cons, List.not_mem_nil, or_false] at hm
    rcases hm with h | h | h <;> rw [h] <;> simp [opR, opI, opD]
  have R3 : RdOp u3 u3.heap.size A3 l3 := ⟨hw3.rd OpS.enc_len, fun z hz => by
    obtain ⟨g, h1, h2, h3⟩ := hp3 z hz
    exact ⟨h1.1.rd encI32_len, h2.1.rd At.enc_len, h3.1.rd Ch.enc_len⟩⟩
  have HO := Lib.hid ho3
  have HOB := Lib.hid OB
  have HR3 := Lib.hid R3
  have HLN := Lib.hid hlen
  clear ho3 hw3 hp3 OB R3 y3
  rw [hlen]
  clear hlen
  go_wp2_with (go_at_call 22; refine Hid.out ?_)
  refine Lib.hid ?_
  have ya := ext_alloc u3 (.cells #[.int .i32 120] 21)
  have ra : RdI32 _ _ _ [120] := Rd.new (enc := encI32) (size := 1) encI32_len u3 21 [120] (cs := #[.int .i32 120]) rfl rfl
  have z1 : (u3.alloc (.cells #[.int .i32 120] 21)).heap.size = u3.heap.size + 1 := by simp
  generalize u3.alloc (.cells #[.int .i32 120] 21) = u4 at *
  have yb := ext_alloc u4 (.cells #[.int .u8 1, .int .i64 1, .slice none 0 0, .slice none 0 0, .slice none 0 0, .int .u8 2, .int .i64 0, .slice (some ⟨u3.heap.size, 0, none⟩) 1 1, .slice none 0 0, .slice none 0 0, .int .u8 3, .int .i64 1, .slice none 0 0, .slice none 0 0, .slice none 0 0] 50)
  have rb : RdOs _ _ _ (lit23 u3.heap.size) := Rd.new (enc := OpS.enc) (size := 5) OpS.enc_len u4 50 (lit23 u3.heap.size) (cs := #[.int .u8 1, .int .i64 1, .slice none 0 0, .slice none 0 0, .slice none 0 0, .int .u8 2, .int .i64 0, .slice (some ⟨u3.heap.size, 0, none⟩) 1 1, .slice none 0 0, .slice none 0 0, .int .u8 3, .int .i64 1, .slice none 0 0, .slice none 0 0, .slice none 0 0]) rfl (b := u3.heap.size + 1) z1.symm
  generalize u4.alloc (.cells #[.int .u8 1, .int .i64 1, .slice none 0 0, .slice none 0 0, .slice none 0 0, .int .u8 2, .int .i64 0, .slice (some ⟨u3.heap.size, 0, none⟩) 1 1, .slice none 0 0, .slice none 0 0, .int .u8 3, .int .i64 1, .slice none 0 0, .slice none 0 0, .slice none 0 0] 50) = u5 at *
  have hsub : ∀ z ∈ lit23 u3.heap.size, RdI32 u5 u5.heap.size z.Ar z.o.r ∧ RdAt u5 u5.heap.size z.As z.o.s ∧ RdCh u5 u5.heap.size z.Ap z.o.p := fun z hz => by
    simp only [lit23, List.mem_cons, List.not_mem_nil, or_false] at hz
    rcases hz with rfl | rfl | rfl
    · exact ⟨Rd.nil, Rd.nil, Rd.nil⟩
    · exact ⟨ra.ext yb, Rd.nil, Rd.nil⟩
    · exact ⟨Rd.nil, Rd.nil, Rd.nil⟩
  have lb : ∀ x ∈ lit23 u3.heap.size, x.o.r.length ≤ 100000000 ∧ x.o.s.length ≤ 100000000 ∧ x.o.p.length ≤ 100000000 := fun z hz => by
    simp only [lit23, List.mem_cons, List.not_mem_nil, or_false] at hz
    rcases hz with rfl | rfl | rfl <;> simp [opR, opI, opD]
  refine (same15_any A3 (some ⟨u3.heap.size + 1, 0, none⟩) 3 3 c3 3 l3 (lit23 u3.heap.size) u5 HLN.out.symm rfl (HR3.out.ext (ext_trans ya yb)) ⟨rb, hsub⟩ (by omega) (by omega) HOB.out lb).mono ?_
  rw [HO.out, show osOf (lit23 u3.heap.size) = [opR 1 [], opI [120] [], opD 1] from rfl, decide_eq_true rfl]
  have Y5 := Lib.hid (ext_trans Y3.out (ext_trans ya yb))
  clear ya yb ra rb z1 hsub lb
  rintro e u6 ⟨rfl, y6⟩
  have yy := ext_trans Y5.out y6
  go_wp2_with (fail)
  go_ret
  exact ⟨rfl, yy⟩
end Go.Proofs.YtfnkjcodcoehcaaGreatDoor
namespace Go.Proofs.YtfnkjcodcoehcaaGreatDoor
open Go.RowKit
set_option linter.unusedVariables false
set_option linter.unusedSimpArgs false

/-- a slice of cells as an element of a slice -/
structure DocS where
  A : Option Addr
  n : Nat
  c : Nat
  d : List ClS
def DocS.enc (x : DocS) : List Value := [.slice x.A x.n x.c]
theorem DocS.enc_len (x : DocS) : x.enc.length = 1 := rfl
def GreatDs (n0 : Nat) (L : List DocS) (w : World) (e : Ending) (w' : World) : Prop :=
  ∃ b : Bool, e = .returned (.bool b) ∧ (b = false → n0 ≤ 64 ∧ ∀ x ∈ L, x.n ≤ 400 ∧ ∀ c ∈ x.d, c.c.s.length ≤ 64) ∧ ∃ d, w' = w.drewN d
set_option maxRecDepth 100000 in
set_option maxHeartbeats 1600000 in
theorem great23_any (A0 A1 : Option Addr) (n0 c0 n c : Nat) (L : List DocS) (w : World) (hn : n = L.length) (h : Rd DocS.enc 1 w w.heap.size A1 L) (hb : n ≤ 1000) (h0 : n0 ≤ 140737488355328)
    (hd : ∀ x ∈ L, x.n = x.d.length ∧ RdCl w w.heap.size x.A x.d ∧ x.n ≤ 140737488355328 ∧ ∀ y ∈ x.d, y.c.s.length ≤ 140737488355328) :
    Calls Tryz.prog 26 #[.slice A0 n0 c0, .slice A1 n c] w (GreatDs n0 L w) := by
  have N := Lib.hid hn
  have HR := Lib.hid h
  have HD := Lib.hid hd
  clear hn h hd
  go_enter Tryz.func26, Tryz.ntmps26
  go_wp2_with (fail)
  go_loopg [5, 8] n (fun g xv iv wr => ∃ (m : Nat), m ≤ n ∧ g = n - m ∧ iv = .int .i64 (m : Int) ∧ (∃ d, wr = w.drewN d) ∧ Hid (∀ x ∈ L.take m, x.n ≤ 400 ∧ ∀ c ∈ x.d, c.c.s.length ≤ 64))
  case atStart => exact ⟨0, by omega, rfl, rfl, ⟨0, rfl⟩, Lib.hid (by simp)⟩
  case round =>
    obtain ⟨m, hm, hg, rfl, ⟨d, rfl⟩, HI⟩ := hrel
    have HG := Lib.hid hg
    clear hg
    by_cases hlt : m < n
    · have hl1 : m < L.length := by have := N.out; omega
      obtain ⟨ad, o, rfl, had, hd1, hx1, hc0⟩ := HR.out.el hl1
      have hmem := List.mem_of_getElem? hx1
      have g2 := Lib.hid (HD.out o hmem)
      have HT : Hid (L.take (m + 1) = L.take m ++ [o]) := Lib.hid (by rw [List.take_add_one, hx1]; rfl)
      have z0 : w.cell? (ad.add (m * 1)) = some (.slice o.A o.n o.c) := by have := hc0 0 _ rfl; rwa [add_zero'] at this
      rw [Nat.mul_one] at z0
      have hlt' : (m : Int) < (n : Int) := by omega
      have hw2 : IntKind.i64.wrap ((m:Int) + 1) = (m : Int) + 1 := IntWalk.i64_in _ (by omega)
      obtain ⟨A, no, co, dd⟩ := o
      clear hc0 hx1 hd1 hmem hl1
      go_wp2_with (go_at_call 11; refine Hid.out ?_)
      refine Lib.hid ?_
      refine (great18_any A no co dd 400 _ g2.out.1 (by have := g2.out.2.1; exact ⟨this.1.drewN _, fun x hx => (this.2 x hx).drewN _⟩) g2.out.2.2.1 g2.out.2.2.2).mono ?_
      rintro e w1 ⟨g1, rfl, h1, x1, rfl⟩
      cases g1 with
      | true =>
        clear h1
        go_wp2_with (fail)
        go_ret
        exact ⟨true, rfl, (by intro h; cases h), _, (by first | exact World.drewN_drewN _ _ _ | rfl)⟩
      | false =>
        have h2 := h1 rfl
        have HI2 : Hid (∀ x ∈ L.take (m + 1), x.n ≤ 400 ∧ ∀ c ∈ x.d, c.c.s.length ≤ 64) := Lib.hid (fun x hx => by
          rw [HT.out] at hx
          rcases List.mem_append.1 hx with hx | hx
          · exact HI.out x hx
          · simp at hx; subst hx
            exact ⟨by have := h2.1; simp only; omega, h2.2⟩)
        clear h1 h2
        go_wp2_with (fail)
        go_roundg (n - (m + 1))
        case measure => have := HG.out; omega
        case rel => exact ⟨m + 1, by omega, rfl, by go_num, ⟨_, (by first | exact World.drewN_drewN _ _ _ | rfl)⟩, HI2⟩
    · have hlt' : ¬ (m : Int) < (n : Int) := by omega
      have HI2 := Lib.hid HI.out
      rw [List.take_of_length_le (by have := N.out; omega)] at HI2
      by_cases h64 : (64 : Int) < (n0 : Int)
      · go_wp2_with (fail)
        go_ret
        exact ⟨true, rfl, (by intro h; cases h), _, rfl⟩
      · go_wp2_with (fail)
        go_ret
        exact ⟨false, rfl, fun _ => ⟨by omega, HI2.out⟩, _, rfl⟩
end Go.Proofs.YtfnkjcodcoehcaaGreatDoor
namespace Go.Proofs.YtfnkjcodcoehcaaGreatDoor
open Go.RowKit
theorem same15D {w : World} {A B : Option Addr} {n c n2 c2 : Nat} {x z : List OpS} (h1 : OpsAt w A n x) (h2 : OpsAt w B n2 z) {b : Bool} (hb : decide (osOf x = osOf z) = b) :
    Calls Tryz.prog 22 #[.slice A n c, .slice B n2 c2] w fun e w' => e = .returned (.bool b) ∧ Below w.heap.size w w' := by
  have h := same15_any A B n n2 c c2 x z w h1.len h2.len h1.rd h2.rd (by have := h1.b; omega) (by have := h2.b; omega) (fun o ho => by obtain ⟨_, _, a, b, c⟩ := h1.ok o ho; omega) (fun o ho => by obtain ⟨_, _, a, b, c⟩ := h2.ok o ho; omega)
  rw [hb] at h
  exact h
end Go.Proofs.YtfnkjcodcoehcaaGreatDoor
