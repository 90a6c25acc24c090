/- Merged texts: May18, Apply19, OpKnown, Known19. -/
import Derived.Test.YtfnkjcodcoehcaaGreatDoorR17
import Derived.Test.YtfnkjcodcoehcaaGreatDoorR21
import Derived.Test.YtfnkjcodcoehcaaGreatDoorR28
import Derived.Test.YtfnkjcodcoehcaaGreatDoorR10
import Derived.Test.YtfnkjcodcoehcaaGreatDoorR18
import Derived.Test.YtfnkjcodcoehcaaGreatDoorR27
import Derived.Test.YtfnkjcodcoehcaaGreatDoorR30
import Derived.Test.YtfnkjcodcoehcaaGreatDoorR29
import Derived.Test.YtfnkjcodcoehcaaGreatDoorR25
import Derived.Test.YtfnkjcodcoehcaaGreatDoorR23
import Derived.Test.YtfnkjcodcoehcaaGreatDoorR22
import Derived.Test.YtfnkjcodcoehcaaGreatDoorR12
namespace Go.Proofs.YtfnkjcodcoehcaaGreatDoor
open Go.RowKit
set_option linter.unusedVariables false
set_option linter.unusedSimpArgs false

theorem bne_ofB {a b : Bool} (h : a ≠ b) : (a != b) = true ∧ (a == b) = false := by cases a <;> cases b <;> simp_all
theorem any_take1 {α : Type} {f : α → Bool} {l : List α} {i : Nat} {x : α} (hx : l[i]? = some x) : (l.take (i + 1)).any f = ((l.take i).any f || f x) := by
  rw [List.take_add_one, hx, List.any_append]
  simp
theorem any_memC {α : Type} {f : α → Bool} {l : List α} {i : Nat} {x : α} (hx : l[i]? = some x) (h : f x = true) : l.any f = true := List.any_eq_true.2 ⟨x, List.mem_of_getElem? hx, h⟩
/-- is an attribute of a cell out of its place? -/
def badA (l : List Ky) (nl : Bool) (a : At) : Bool := keepK l (!nl) a.key
theorem badP_any (l : List Ky) (c : Cl) : badP l c = c.s.any (badA l (c.r == 10)) := by
  unfold badP partS badA
  by_cases h : c.s.any (fun a => keepK l (!(c.r == 10)) a.key) = true
  · rw [h]
    obtain ⟨a, ha, hk⟩ := List.any_eq_true.1 h
    exact decide_eq_true (List.length_pos_of_mem (List.mem_filter.2 ⟨ha, hk⟩))
  · have h' : c.s.any (fun a => keepK l (!(c.r == 10)) a.key) = false := by simpa using h
    rw [h']
    refine decide_eq_false fun hp => ?_
    obtain ⟨a, ha⟩ := List.exists_mem_of_length_pos hp
    obtain ⟨h1, h2⟩ := List.mem_filter.1 ha
    exact h (List.any_eq_true.2 ⟨a, h1, h2⟩)
set_option maxRecDepth 100000 in
set_option maxHeartbeats 6400000 in
theorem may18_any (A B : Option Addr) (n c n2 c2 : Nat) (l : List Ky) (d : List ClS) (w : World) (hn : n = l.length) (h : RdKy w w.heap.size A l) (hb : n ≤ 1048576) (hn2 : n2 = d.length) (h2 : RdCl w w.heap.size B d) (hb2 : n2 ≤ 1000000)
    (hv : ∀ x ∈ d, okVa x.c.s ∧ x.c.s.length ≤ 1000000) (hT : Lib.Utf8Tabs 1 2 w) :
    Calls Tryz.prog 73 #[.slice A n c, .slice B n2 c2] w fun e w' => e = .returned (.int .i64 (mayD l (clsOf d))) ∧ Below w.heap.size w w' := by
  have N := Lib.hid hn
  have N2 := Lib.hid hn2
  have HK := Lib.hid h
  have HD := Lib.hid h2
  have HV := Lib.hid hv
  have HT := Lib.hid hT
  have LC : Hid ((clsOf d).length = n2) := Lib.hid (by rw [clsOf_len, hn2])
  obtain ⟨R, hR⟩ : ∃ X, mayD l (clsOf d) = X := ⟨_, rfl⟩
  rw [hR]
  unfold mayD at hR
  have HR := Lib.hid hR
  clear hn hn2 h h2 hv hT hR
  go_enter Tryz.func73, Tryz.ntmps73
  by_cases h1 : (n2 : Int) < 1
  · have hr := HR.out
    rw [if_pos (.inl (by rw [LC.out]; omega))] at hr
    subst hr
    go_wp2_with (fail)
    go_ret
    exact ⟨rfl, Below.refl _ _⟩
  have h1b : ¬ (536870912 : Int) < (n2 : Int) := by omega
  have HR1 := HR.out
  rw [if_neg (by rw [LC.out]; omega)] at HR1
  have HR := Lib.hid HR1
  clear HR1
  go_wp2_with (fail)
  go_loopg [5] n2 (fun g iv wr => ∃ i : Nat, i ≤ n2 ∧ g = n2 - i ∧ iv = .int .i64 (i : Int) ∧ Below w.heap.size w wr ∧ Hid (((clsOf d).take i).any (badR l) = false))
  case atStart => exact ⟨0, Nat.zero_le _, rfl, rfl, Below.refl _ _, Lib.hid rfl⟩
  case round =>
    obtain ⟨i, hi, hg, rfl, y, HI⟩ := hrel
    have HG := Lib.hid hg
    clear hg
    by_cases hlt : i < n2
    · have hlt' : (i : Int) < (n2 : Int) := by omega
      obtain ⟨ad, z, rfl, _, _, hx, hc⟩ := (HD.out.ext y).1.el (i := i) (by have := N2.out; omega)
      have HX := Lib.hid (clsOf_at hx)
      obtain ⟨va, vl⟩ := HV.out z (List.mem_of_getElem? hx)
      have RS := Lib.hid ((HD.out.ext y).2 z (List.mem_of_getElem? hx))
      obtain ⟨⟨r, s⟩, As, cs⟩ := z
      obtain ⟨z0, z1⟩ := cl_cells hc
      simp only at va vl
      have hw2 : IntKind.i64.wrap ((i : Int) + 1) = (i : Int) + 1 := IntWalk.i64_in _ (by omega)
      clear hx hc
      obtain ⟨mr, hmr⟩ : ∃ X, mayR r = X := ⟨_, rfl⟩
      have HMR := Lib.hid hmr
      clear hmr
      cases mr with
      | false =>
        have hr := HR.out
        rw [if_pos (any_memC HX.out (by unfold badR; rw [HMR.out]; rfl))] at hr
        subst hr
        go_wp2_with (go_at_call 150; refine (refMay_any r _).mono ?_; rintro e w2 ⟨rfl, rfl⟩; rw [HMR.out])
        go_ret
        exact ⟨rfl, y⟩
      | true =>
        go_wp2_with (first | (go_at_call 150; refine (refMay_any r _).mono ?_; rintro e w2 ⟨rfl, rfl⟩; rw [HMR.out]) | (go_at_call 107; refine Hid.out ?_))
        refine Lib.hid ?_
        refine (mayR5_any A As n c s.length cs l s _ N.out (HK.out.ext y) (by omega) rfl RS.out (by omega) va (Utf8Tabs_below HT.out y)).mono ?_
        obtain ⟨M, hM⟩ : ∃ X, mayS l s = X := ⟨_, rfl⟩
        rw [hM]
        have HM := Lib.hid hM
        clear hM
        rintro e w3 ⟨rfl, y3⟩
        have yy := ext_trans y y3
        by_cases h3 : M = 3
        · subst h3
          have hr := HR.out
          rw [if_pos (any_memC HX.out (by unfold badR; rw [HM.out]; simp))] at hr
          subst hr
          go_wp2_with (fail)
          go_ret
          exact ⟨rfl, yy⟩
        · have h3' : (M == 3) = false := beq_eq_false_iff_ne.2 h3
          have HH3 := Lib.hid h3
          clear h3
          go_wp2_with (fail)
          go_roundg (n2 - (i + 1))
          case measure => have := HG.out; clear hw2; omega
          case rel => exact ⟨i + 1, by clear hw2; omega, rfl, rfl, yy, Lib.hid (by rw [any_take1 HX.out, HI.out]; unfold badR; rw [HMR.out, HM.out]; simp [HH3.out])⟩
    have hlt' : ¬ (i : Int) < (n2 : Int) := by omega
    have HR2 := HR.out
    have e0 := HI.out
    rw [List.take_of_length_le (by rw [LC.out]; omega)] at e0
    rw [if_neg (by rw [e0]; decide)] at HR2
    have HR := Lib.hid HR2
    clear HR2 HI
    have AR := Lib.hid e0
    clear e0
    obtain ⟨wv, hwv⟩ : ∃ X, X = wr := ⟨_, rfl⟩
    subst hwv
    go_wp2_with (fail)
    go_loopg [6] n2 (fun g iv wr => ∃ i : Nat, i ≤ n2 ∧ g = n2 - i ∧ iv = .int .i64 (i : Int) ∧ Below w.heap.size w wr ∧ Hid (((clsOf d).take i).any (badK l) = false))
    case atStart => exact ⟨0, Nat.zero_le _, rfl, rfl, y, Lib.hid rfl⟩
    case round =>
      obtain ⟨i2, hi2, hg, rfl, y, HI⟩ := hrel
      have HG := Lib.hid hg
      clear hg
      by_cases hlt : i2 < n2
      · have hlt' : (i2 : Int) < (n2 : Int) := by omega
        obtain ⟨ad, z, rfl, _, _, hx, hc⟩ := (HD.out.ext y).1.el (i := i2) (by have := N2.out; omega)
        have HX := Lib.hid (clsOf_at hx)
        obtain ⟨va, vl⟩ := HV.out z (List.mem_of_getElem? hx)
        have RS := Lib.hid ((HD.out.ext y).2 z (List.mem_of_getElem? hx))
        obtain ⟨⟨r, s⟩, As, cs⟩ := z
        obtain ⟨z0, z1⟩ := cl_cells hc
        simp only at va vl
        have hw2 : IntKind.i64.wrap ((i2 : Int) + 1) = (i2 : Int) + 1 := IntWalk.i64_in _ (by omega)
        clear hx hc
        go_wp2_with (go_at_call 107; refine Hid.out ?_)
        refine Lib.hid ?_
        refine (mayR5_any A As n c s.length cs l s _ N.out (HK.out.ext y) (by omega) rfl RS.out (by omega) va (Utf8Tabs_below HT.out y)).mono ?_
        obtain ⟨M, hM⟩ : ∃ X, mayS l s = X := ⟨_, rfl⟩
        rw [hM]
        have HM := Lib.hid hM
        clear hM
        rintro e w3 ⟨rfl, y3⟩
        have yy := ext_trans y y3
        by_cases h3 : M = 0
        · subst h3
          go_wp2_with (fail)
          go_roundg (n2 - (i2 + 1))
          case measure => have := HG.out; clear hw2; omega
          case rel => exact ⟨i2 + 1, by clear hw2; omega, rfl, rfl, yy, Lib.hid (by rw [any_take1 HX.out, HI.out]; unfold badK; rw [HM.out]; rfl)⟩
        · have h3' : (M == 0) = false := beq_eq_false_iff_ne.2 h3
          have h3'' : (M != 0) = true := by rw [bne, h3']; rfl
          have hr := HR.out
          rw [if_pos (any_memC HX.out (by unfold badK; rw [HM.out]; simp [h3]))] at hr
          subst hr
          go_wp2_with (fail)
          go_ret
          exact ⟨rfl, yy⟩
      have hlt' : ¬ (i2 : Int) < (n2 : Int) := by omega
      have HR2 := HR.out
      have e0 := HI.out
      rw [List.take_of_length_le (by rw [LC.out]; omega)] at e0
      rw [if_neg (by rw [e0]; decide)] at HR2
      have HR := Lib.hid HR2
      have AK := Lib.hid e0
      clear HR2 HI e0
      -- the last one
      obtain ⟨k, hk⟩ : ∃ k, n2 = k + 1 := ⟨n2 - 1, by omega⟩
      have e3 : (n2 : Int) - 1 = (k : Int) := by omega
      have hw3 : IntKind.i64.wrap ((n2 : Int) - 1) = (k : Int) := by rw [e3]; exact IntWalk.i64_in _ (by omega)
      have hkl : k < n2 := by omega
      have hkl' : (k : Int) < (n2 : Int) := by omega
      obtain ⟨ad, z, had, _, _, hx, hc⟩ := (HD.out.ext y).1.el (i := k) (by have := N2.out; omega)
      have HX := Lib.hid (clsOf_at hx)
      obtain ⟨⟨r, s⟩, As, cs⟩ := z
      obtain ⟨z0, -⟩ := cl_cells hc
      have GL : (clsOf d).getLast? = some ⟨r, s⟩ := by rw [List.getLast?_eq_getElem?, LC.out, hk]; exact HX.out
      have HR2 := HR.out
      rw [GL] at HR2
      have HR := Lib.hid HR2
      clear HR2 GL hx hc e3
      obtain ⟨wv, hwv⟩ : ∃ X, X = wr := ⟨_, rfl⟩
      subst hwv
      rw [had]
      by_cases hr : r = 10
      rotate_left
      · have hr' : (r == 10) = false := beq_eq_false_iff_ne.2 hr
        have hr'' : (r != 10) = true := by rw [bne, hr']; rfl
        have h9 := HR.out
        rw [if_pos (by simp [hr])] at h9
        subst h9
        go_wp2_with (fail)
        go_ret
        exact ⟨rfl, y⟩
      subst hr
      have h9 := HR.out
      rw [if_neg (by simp)] at h9
      have HR := Lib.hid h9
      clear h9
      go_wp2_with (fail)
      rw [← had]
      clear z0 hw3 hkl' HX
      go_loopg [7] n2 (fun g iv wr => ∃ i : Nat, i ≤ n2 ∧ g = n2 - i ∧ iv = .int .i64 (i : Int) ∧ Below w.heap.size w wr ∧ Hid (((clsOf d).take i).any (badP l) = false))
      case atStart => exact ⟨0, Nat.zero_le _, rfl, rfl, y, Lib.hid rfl⟩
      case round =>
        obtain ⟨i3, hi3, hg, rfl, y, HI⟩ := hrel
        have HG3 := Lib.hid hg
        clear hg
        by_cases hlt : i3 < n2
        · have hlt3 : (i3 : Int) < (n2 : Int) := by omega
          obtain ⟨ad3, z, had3, hab3, _, hx, hc⟩ := HD.out.1.el (i := i3) (by have := N2.out; omega)
          have HX := Lib.hid (clsOf_at hx)
          obtain ⟨va, vl⟩ := HV.out z (List.mem_of_getElem? hx)
          have RS := Lib.hid (HD.out.2 z (List.mem_of_getElem? hx))
          obtain ⟨⟨r, s⟩, As, cs⟩ := z
          simp only at va vl
          have HC := Lib.hid hc
          have HAB := Lib.hid hab3
          have CZ : ∀ W : World, Below w.heap.size w W → W.cell? (ad3.add (i3 * 2)) = some (.int .i32 r) ∧ W.cell? { block := (ad3.add (i3 * 2)).block, off := (ad3.add (i3 * 2)).off + 1 } = some (.slice As s.length cs) := fun W yw =>
            cl_cells (HC.out.keep (w' := W) fun q hq => yw.cell (by rw [hq, add_block]; exact HAB.out))
          have VL := Lib.hid vl
          have hw2 : IntKind.i64.wrap ((i3 : Int) + 1) = (i3 : Int) + 1 := IntWalk.i64_in _ (by omega)
          clear hx hc va vl hab3
          obtain ⟨wv2, hwv⟩ : ∃ X, X = wr := ⟨_, rfl⟩
          subst hwv
          rw [had3]
          go_wp2_with (fail)
          go_loopg [8] s.length (fun g iv wr => ∃ j : Nat, j ≤ s.length ∧ g = s.length - j ∧ iv = .int .i64 (j : Int) ∧ Below w.heap.size w wr ∧ Hid ((s.take j).any (badA l (r == 10)) = false))
          case atStart => exact ⟨0, Nat.zero_le _, rfl, rfl, y, Lib.hid rfl⟩
          case round =>
            obtain ⟨j, hj, hg, rfl, y, HJ⟩ := hrel
            have HG4 := Lib.hid hg
            clear hg
            obtain ⟨z0, z1⟩ := CZ _ y
            by_cases hlj : j < s.length
            · have hlj' : (j : Int) < (s.length : Int) := by omega
              obtain ⟨ae, a, rfl, _, _, ha, hca⟩ := (RS.out.below y (Nat.le_refl _)).el hlj
              have HA := Lib.hid ha
              obtain ⟨ka, ⟨va0, va1, va2, va3⟩⟩ := a
              obtain ⟨q0, -⟩ := at_cells hca
              have hw4 : IntKind.i64.wrap ((j : Int) + 1) = (j : Int) + 1 := IntWalk.i64_in _ (by have := VL.out; clear hw2; omega)
              have TH : Hid ((findK l ka).isSome = true) := Lib.hid (by
                have h1 : badK l ⟨r, s⟩ = false := by
                  have := AK.out
                  rw [List.any_eq_false] at this
                  simpa using this _ (List.mem_of_getElem? HX.out)
                have h2 : mayS l s = 0 := by unfold badK at h1; simpa using h1
                have h3 := (mayS_zero h2).2.2.2 _ (List.mem_of_getElem? ha)
                unfold thereA fitsK at h3
                simp only at h3
                cases hf : findK l ka with
                | none => rw [hf] at h3; cases h3
                | some K => rfl)
              clear ha hca
              go_wp2_with (go_at_call 151; refine Hid.out ?_)
              refine Lib.hid ?_
              refine (findR_any A n c l ka wr N.out (HK.out.ext y) (by omega)).mono ?_
              rintro e w3 ⟨k1, k2, k3, k4, k5, k6, q, rfl, hq1, hq2, y3⟩
              have y4 := ext_alloc w3 (.cells #[.int .i64 k1, .bool k2, .int .u8 k3, .bool k4, .bool k5, .int .i64 k6] 97)
              have hbx := heap_alloc_new w3 (.cells #[.int .i64 k1, .bool k2, .int .u8 k3, .bool k4, .bool k5, .int .i64 k6] 97)
              have y5 := ext_trans y (ext_trans y3 y4)
              have HQ1 := Lib.hid hq1
              have HQ2 := Lib.hid hq2
              clear hq1 hq2 q0 y3 y4
              go_wp2_with (fail)
              generalize w3.alloc (.cells #[.int .i64 k1, .bool k2, .int .u8 k3, .bool k4, .bool k5, .int .i64 k6] 97) = w4 at *
              obtain ⟨b0, b1, b2, b3, b4, b5⟩ := box_ky hbx
              obtain ⟨z0, z1⟩ := CZ _ y5
              have BA : Hid (badA l (r == 10) ⟨ka, ⟨va0, va1, va2, va3⟩⟩ = (k2 != (r == 10))) := Lib.hid (by
                unfold badA keepK
                have h1 := HQ1.out
                have h2 := HQ2.out
                have h3 := TH.out
                simp only
                cases hf : findK l ka with
                | none => rw [hf] at h3; cases h3
                | some K =>
                  rw [hf] at h1
                  have hK : K = ⟨k1, k2, k3, k4, k5, k6⟩ := h1
                  subst hK
                  show (k2 == !(r == 10)) = (k2 != (r == 10))
                  cases k2 <;> cases (r == 10) <;> rfl)
              obtain ⟨nl, hnl⟩ : ∃ X, (r == 10) = X := ⟨_, rfl⟩
              have HNL := Lib.hid hnl
              rw [hnl] at BA
              have YY := Lib.hid y5
              clear hbx y y5
              by_cases hk2 : k2 = nl
              · have hkn : (k2 != nl) = false := by rw [hk2]; exact bne_self_eq_false _
                have hke : (k2 == nl) = true := by rw [hk2]; exact beq_self_eq_true _
                go_quiet (fail)
                go_wp2_with (fail)
                go_roundg (s.length - (j + 1))
                case measure => have := HG4.out; clear hw2 hw4; omega
                case rel => exact ⟨j + 1, by clear hw2 hw4; omega, rfl, rfl, below_drewN YY.out nq, Lib.hid (by rw [any_take1 HA.out, HJ.out, HNL.out, BA.out, hkn]; rfl)⟩
              · obtain ⟨hkn, hke⟩ := bne_ofB hk2
                have h9 := HR.out
                rw [if_pos (any_memC HX.out (by rw [badP_any]; exact List.any_eq_true.2 ⟨_, List.mem_of_getElem? HA.out, by show badA l (r == 10) _ = true; rw [HNL.out, BA.out, hkn]⟩))] at h9
                subst h9
                go_quiet (fail)
                go_wp2_with (fail)
                go_ret
                exact ⟨rfl, below_drewN YY.out nq⟩
            · have hlj' : ¬ (j : Int) < (s.length : Int) := by omega
              have e0 := HJ.out
              rw [List.take_of_length_le (by omega)] at e0
              have E0 := Lib.hid e0
              clear e0
              go_wp2_with (fail)
              rw [← had3]
              go_roundg (n2 - (i3 + 1))
              case measure => have := HG3.out; clear hw2; omega
              case rel => exact ⟨i3 + 1, by clear hw2; omega, rfl, rfl, y, Lib.hid (by rw [any_take1 HX.out, HI.out, badP_any]; exact E0.out)⟩
        · have hlt3 : ¬ (i3 : Int) < (n2 : Int) := by omega
          have h9 := HR.out
          have e0 := HI.out
          rw [List.take_of_length_le (by rw [LC.out]; omega)] at e0
          rw [if_neg (by rw [e0]; decide)] at h9
          subst h9
          go_wp2_with (fail)
          go_ret
          exact ⟨rfl, y⟩
end Go.Proofs.YtfnkjcodcoehcaaGreatDoor
namespace Go.Proofs.YtfnkjcodcoehcaaGreatDoor
open Go.RowKit
set_option linter.unusedVariables false
set_option linter.unusedSimpArgs false

theorem makes_len : ∀ us : List Un, makesU us ≤ us.length
  | [] => Nat.le_refl _
  | .ins r s :: us => by have := makes_len us; rw [makesU_i, List.length_cons]; omega
  | .del :: us => by have := makes_len us; rw [makesU_d, List.length_cons]; omega
  | .ret p :: us => by have := makes_len us; rw [makesU_r, List.length_cons]; omega
theorem one_rises {l : List Ky} {o : Opd} (h : oneP l o = 0) : riseC o.p = true := by
  unfold oneP at h
  split at h
  · split at h
    · exact (mayP_zero h).2.1
    · rename_i h1; exact absurd h h1
  · cases h
section
variable {l : List Ky} {A0 A1 A2 : Option Addr} {n0 n1 n2 c0 c1 c2 : Nat} {d : List ClS} {x : List OpS} {w : World}
set_option maxRecDepth 100000 in
set_option maxHeartbeats 3200000 in
theorem apply19Bad {most r : Int} (e0 : n0 = l.length) (r0 : RdKy w w.heap.size A0 l) (b0 : n0 ≤ 1048576) (d1 : DocAt w A1 n1 c1 d) (o2 : OpsAt w A2 n2 x) (v1 : ∀ z ∈ d, okVa z.c.s) (hz : szX x ≤ 5000)
    (hT : Lib.Utf8Tabs 1 2 w) (hr : applyN l x (clsOf d) most = r) (hne : r ≠ 0) :
    Calls Tryz.prog 34 #[.slice A0 n0 c0, .slice A1 n1 c1, .slice A2 n2 c2, .int .i64 most] w fun e w' => e = .returned (.tuple #[.slice none 0 0, .int .i64 r]) ∧ Below w.heap.size w w' := by
  have N0 := Lib.hid e0
  have R0 := Lib.hid r0
  have D1 := Lib.hid d1
  have O2 := Lib.hid o2
  have V1 := Lib.hid v1
  have HT := Lib.hid hT
  have HZ := Lib.hid hz
  have hx := Below.refl w.heap.size w
  obtain ⟨M, hM⟩ : ∃ X, mayO l x = X := ⟨_, rfl⟩
  obtain ⟨md, hmd⟩ : ∃ X, mayD l (clsOf d) = X := ⟨_, rfl⟩
  obtain ⟨F, hF⟩ : ∃ X, fitsO l x (n1 : Int) most = X := ⟨_, rfl⟩
  have MM := Lib.hid hM
  have MD := Lib.hid hmd
  have HF := Lib.hid hF
  have HR : Hid ((if M ≠ 0 then M else if md ≠ 0 then 3 else F) = r) := Lib.hid (by rw [← hr]; unfold applyN; rw [hM, hmd, D1.out.clen, hF])
  clear e0 r0 d1 o2 v1 hT hr hM hmd hF hz
  go_enter Tryz.func34, Tryz.ntmps34
  go_wp2_with (go_at_call 43; refine Hid.out ?_)
  refine Lib.hid ?_
  refine (mayKeysD N0.out R0.out b0 O2.out HZ.out HT.out MM.out).mono ?_
  rintro e wn ⟨rfl, y⟩
  have R0 := Lib.hid (R0.out.ext y)
  have D1 := Lib.hid (D1.out.ext y)
  have O2 := Lib.hid (O2.out.ext y)
  have HT := Lib.hid (Utf8Tabs_below HT.out y)
  replace hx := ext_trans hx y
  clear y
  by_cases h0 : M = 0
  rotate_left
  · have h0' : (M == 0) = false := beq_eq_false_iff_ne.2 h0
    have h0'' : (M != 0) = true := by rw [bne, h0']; rfl
    have E : Hid (M = r) := Lib.hid (by have h := HR.out; rwa [if_pos h0] at h)
    clear h0 hne
    go_wp2_with (fail)
    refine bodyPost_ret (v := .tuple #[.slice none 0 0, .int .i64 M]) (by simp [results, Tryz.results34, go_sem]) rfl ?_
    exact ⟨by rw [E.out], hx⟩
  subst h0
  replace HR := Lib.hid (show (if md ≠ 0 then 3 else F) = r by have h := HR.out; rwa [if_neg (by simp)] at h)
  go_wp2_with (go_at_call 73; refine Hid.out ?_)
  refine Lib.hid ?_
  refine (may18_any A0 A1 n0 c0 n1 c1 l d _ N0.out R0.out b0 D1.out.len D1.out.rd (by have := D1.out.b; omega) (fun z hz => ⟨V1.out z hz, (D1.out.vr z hz).1⟩) HT.out).mono ?_
  rw [MD.out]
  rintro e wn ⟨rfl, y⟩
  have R0 := Lib.hid (R0.out.ext y)
  have D1 := Lib.hid (D1.out.ext y)
  have O2 := Lib.hid (O2.out.ext y)
  have HT := Lib.hid (Utf8Tabs_below HT.out y)
  replace hx := ext_trans hx y
  clear y
  by_cases h0 : md = 0
  rotate_left
  · have h0' : (md == 0) = false := beq_eq_false_iff_ne.2 h0
    have h0'' : (md != 0) = true := by rw [bne, h0']; rfl
    have E : Hid (3 = r) := Lib.hid (by have h := HR.out; rwa [if_pos h0] at h)
    clear h0 hne
    go_wp2_with (fail)
    refine bodyPost_ret (v := .tuple #[.slice none 0 0, .int .i64 3]) (by simp [results, Tryz.results34, go_sem]) rfl ?_
    exact ⟨by rw [← E.out], hx⟩
  subst h0
  replace HR := Lib.hid (show F = r by have h := HR.out; rwa [if_neg (by simp)] at h)
  go_wp2_with (go_at_call 91; refine Hid.out ?_)
  refine Lib.hid ?_
  refine (fits15_any (n1 : Int) most N0.out R0.out b0 O2.out HZ.out HT.out HF.out).mono ?_
  rintro e wn ⟨rfl, y⟩
  replace hx := ext_trans hx y
  clear y
  have h0' : (F == 0) = false := beq_eq_false_iff_ne.2 (by rw [HR.out]; exact hne)
  have h0'' : (F != 0) = true := by rw [bne, h0']; rfl
  clear hne
  go_wp2_with (fail)
  refine bodyPost_ret (v := .tuple #[.slice none 0 0, .int .i64 F]) (by simp [results, Tryz.results34, go_sem]) rfl ?_
  exact ⟨by rw [HR.out], hx⟩
set_option maxRecDepth 100000 in
set_option maxHeartbeats 3200000 in
theorem apply19Ok {most : Int} {N : Nat} (e0 : n0 = l.length) (r0 : RdKy w w.heap.size A0 l) (b0 : n0 ≤ 64) (d1 : DocAt w A1 n1 c1 d) (hb : n1 ≤ 400) (o2 : OpsAt w A2 n2 x) (v1 : ∀ z ∈ d, okVa z.c.s) (hz : szX x ≤ 5000)
    (hT : Lib.Utf8Tabs 1 2 w) (hin : In l x (clsOf d) most N) (hr : applyN l x (clsOf d) most = 0) :
    Calls Tryz.prog 34 #[.slice A0 n0 c0, .slice A1 n1 c1, .slice A2 n2 c2, .int .i64 most] w fun e w' =>
      ∃ A c M, e = .returned (.tuple #[.slice A M.length c, .int .i64 0]) ∧ clsOf M = app l (units (osOf x)) (clsOf d) ∧ DocAt w' A M.length c M ∧ Below w.heap.size w w' := by
  have N0 := Lib.hid e0
  have R0 := Lib.hid r0
  have D1 := Lib.hid d1
  have O2 := Lib.hid o2
  have V1 := Lib.hid v1
  have HT := Lib.hid hT
  have HZ := Lib.hid hz
  have HI := Lib.hid hin
  have hx := Below.refl w.heap.size w
  obtain ⟨hmd, hft⟩ := applyN_zero hr
  have hmo := (fits_zero hft).1
  rw [D1.out.clen] at hft
  have MM := Lib.hid hmo
  have MD := Lib.hid hmd
  have HF := Lib.hid hft
  have LD : Hid ((clsOf d).length = n1) := Lib.hid D1.out.clen
  have GO := Lib.hid (mayO_zero hmo).1
  have CM := Lib.hid (came (most := N) (by rw [← N0.out]; exact b0) (by have := o2.b; have := o2.len; omega) (by have := hin.n; omega) o2.ok d1.cvr hin.at_).2.2
  clear e0 r0 d1 o2 v1 hT hin hr hmd hft hmo hz
  go_enter Tryz.func34, Tryz.ntmps34
  go_wp2_with (go_at_call 43; refine Hid.out ?_)
  refine Lib.hid ?_
  refine (mayKeysD N0.out R0.out (by omega) O2.out HZ.out HT.out MM.out).mono ?_
  rintro e wn ⟨rfl, y⟩
  have R0 := Lib.hid (R0.out.ext y)
  have D1 := Lib.hid (D1.out.ext y)
  have O2 := Lib.hid (O2.out.ext y)
  have HT := Lib.hid (Utf8Tabs_below HT.out y)
  replace hx := ext_trans hx y
  clear y
  go_wp2_with (go_at_call 73; refine Hid.out ?_)
  refine Lib.hid ?_
  refine (may18_any A0 A1 n0 c0 n1 c1 l d _ N0.out R0.out (by omega) D1.out.len D1.out.rd (by have := D1.out.b; omega) (fun z hz => ⟨V1.out z hz, (D1.out.vr z hz).1⟩) HT.out).mono ?_
  rw [MD.out]
  rintro e wn ⟨rfl, y⟩
  have R0 := Lib.hid (R0.out.ext y)
  have D1 := Lib.hid (D1.out.ext y)
  have O2 := Lib.hid (O2.out.ext y)
  have HT := Lib.hid (Utf8Tabs_below HT.out y)
  replace hx := ext_trans hx y
  clear y
  go_wp2_with (go_at_call 91; refine Hid.out ?_)
  refine Lib.hid ?_
  refine (fits15_any (n1 : Int) most N0.out R0.out (by omega) O2.out HZ.out HT.out HF.out).mono ?_
  rintro e wn ⟨rfl, y⟩
  have R0 := Lib.hid (R0.out.ext y)
  have D1 := Lib.hid (D1.out.ext y)
  have O2 := Lib.hid (O2.out.ext y)
  replace hx := ext_trans hx y
  clear y
  have UL : Hid ((units (osOf x)).length ≤ 5800) := Lib.hid (by have := HI.out.ul; have := LD.out; have := HZ.out; omega)
  go_wp2_with (go_at_call 92; refine Hid.out ?_)
  refine Lib.hid ?_
  refine (do19_any N0.out R0.out (by omega) D1.out.len D1.out.rd (by omega) D1.out.cap O2.out.len O2.out.rd (by have := O2.out.len; have := szX_len x; have := HZ.out; omega) (fun z hz => by
      have h1 := (mayD_iff.1 MD.out).2.1 _ (mem_cls hz)
      exact ⟨(D1.out.vr z hz).1, (mayS_zero h1.2.1).2.1⟩) (fun o ho => by
      have h1 := szX_mem ho
      unfold szO at h1
      have := HZ.out
      exact ⟨HI.out.isop o ho, by omega, by omega, by omega, one_rises (GO.out o ho)⟩) (by have h := HI.out.fit.t; rw [LD.out] at h; exact h) (by have := makes_len (units (osOf x)); have := UL.out; omega)).mono ?_
  rintro e wn ⟨A, c, M, rfl, hM, oM, pM, y⟩
  have HD : Hid (DocAt wn A M.length c M) := Lib.hid (DocAt.made oM pM (by rw [hM]; exact fun z hz => ⟨by have := CM.out.s64 z hz; omega, CM.out.vr z hz⟩) (by
    have h1 := HI.out.an
    have h2 := HI.out.n
    rw [← hM, clsOf_len] at h1
    omega))
  have HM := Lib.hid hM
  replace hx := ext_trans hx y
  clear hM oM pM y
  go_wp2_with (fail)
  refine bodyPost_ret (v := .tuple #[.slice A M.length c, .int .i64 0]) (by simp [results, Tryz.results34, go_sem]) rfl ?_
  exact ⟨A, c, M, rfl, HM.out, HD.out, hx⟩
end
end Go.Proofs.YtfnkjcodcoehcaaGreatDoor
namespace Go.Proofs.YtfnkjcodcoehcaaGreatDoor
open Go.RowKit
set_option linter.unusedVariables false
set_option linter.unusedSimpArgs false

theorem rd_ops (u : World) (l : List OpS) (hs : Sub u u.heap.size l) {cs : Array Value} (hc : cs.toList = l.flatMap OpS.enc) {b : Nat} (hb : b = u.heap.size) :
    RdOp (u.alloc (.cells cs 50)) (u.alloc (.cells cs 50)).heap.size (some ⟨b, 0, none⟩) l :=
  ⟨Rd.new (enc := OpS.enc) (size := 5) OpS.enc_len u 50 l hc hb, hs.ext (ext_alloc u _)⟩
theorem ok_small (o : Opd) (h1 : o.s = []) (h2 : o.p = []) (h3 : o.r.length ≤ 10) : okOp o := by
  refine ⟨?_, ?_, by omega, by rw [h1]; simp, by rw [h2]; simp⟩
  · rw [h1]; intro c hc; cases hc
  · rw [h2]; intro c hc; cases hc
end Go.Proofs.YtfnkjcodcoehcaaGreatDoor
namespace Go.Proofs.YtfnkjcodcoehcaaGreatDoor
open Go.RowKit
set_option linter.unusedVariables false
set_option linter.unusedSimpArgs false

def kK19 : List Ky := [⟨1, false, 1, false, false, 0⟩]
/-- cells without sets -/
theorem rdcl_nil19 {w : World} {B : Nat} {A : Option Addr} {l : List ClS} (h : RdCs w B A l) (hl : ∀ x ∈ l, x.c.s = []) : RdCl w B A l := ⟨h, fun x hx => by rw [hl x hx]; exact Rd.nil⟩
def dA19 : List ClS := [⟨⟨97, []⟩, none, 0⟩, ⟨⟨98, []⟩, none, 0⟩, ⟨⟨10, []⟩, none, 0⟩]
def xA19 (b : Nat) : List OpS := [⟨opR 1 [], none, 0, none, 0, none, 0⟩, ⟨opI [99] [], some ⟨b, 0, none⟩, 1, none, 0, none, 0⟩, ⟨opD 1, none, 0, none, 0, none, 0⟩]
def xB19 : List OpS := [⟨opD 3, none, 0, none, 0, none, 0⟩]
theorem a19_zero (b : Nat) : applyN kK19 (xA19 b) (clsOf dA19) 9 = 0 := by kernel_rfl
theorem b19_six : applyN kK19 xB19 (clsOf dA19) 9 = 6 := by kernel_rfl
theorem a19_app (b : Nat) : app kK19 (units (osOf (xA19 b))) (clsOf dA19) = [⟨97, []⟩, ⟨99, []⟩, ⟨10, []⟩] := by kernel_rfl

set_option maxRecDepth 100000 in
set_option maxHeartbeats 3200000 in
theorem known19_any (w : World) (hT : Lib.Utf8Tabs 1 2 w) :
    Calls Tryz.prog 31 #[] w fun e w' => e = .returned (.bool true) ∧ Below w.heap.size w w' := by
  go_enter Tryz.func31, Tryz.ntmps31
  go_wp2_with (go_at_call 13; refine Hid.out ?_)
  refine Lib.hid ?_
  have y := ext_alloc w (.cells #[.int .i64 1, .bool false, .int .u8 1, .bool false, .bool false, .int .i64 0] 97)
  have rk : RdKy _ _ _ kK19 := Rd.new (enc := Ky.enc) (size := 6) Ky.enc_len w 97 kK19 (cs := #[.int .i64 1, .bool false, .int .u8 1, .bool false, .bool false, .int .i64 0]) rfl rfl
  refine (new_any (some ⟨w.heap.size, 0, none⟩) 1 1 kK19 _ rfl rk (by omega)).mono ?_
  rintro e v1 ⟨y1, ⟨hm, s, rfl, hS⟩ | ⟨hm, rfl⟩⟩
  rotate_left
  · have : mayKs kK19 = true := by decide +kernel
    rw [this] at hm; cases hm
  clear hm rk
  replace y := ext_trans y y1
  clear y1
  go_wp2_with (go_at_call 33; refine Hid.out ?_)
  refine Lib.hid ?_
  have ya := ext_alloc v1 (.cells #[.int .i32 97, .slice none 0 0, .int .i32 98, .slice none 0 0, .int .i32 10, .slice none 0 0] 38)
  have ra : RdCs _ _ _ dA19 := Rd.new (enc := ClS.enc) (size := 2) ClS.enc_len v1 38 dA19 (cs := #[.int .i32 97, .slice none 0 0, .int .i32 98, .slice none 0 0, .int .i32 10, .slice none 0 0]) rfl rfl
  have z1 : (v1.alloc (.cells #[.int .i32 97, .slice none 0 0, .int .i32 98, .slice none 0 0, .int .i32 10, .slice none 0 0] 38)).heap.size = v1.heap.size + 1 := by simp
  generalize v1.alloc (.cells #[.int .i32 97, .slice none 0 0, .int .i32 98, .slice none 0 0, .int .i32 10, .slice none 0 0] 38) = u1 at *
  have yb := ext_alloc u1 (.cells #[.int .i32 99] 21)
  have rb : RdI32 _ _ _ [99] := Rd.new (enc := encI32) (size := 1) encI32_len u1 21 [99] (cs := #[.int .i32 99]) rfl (b := v1.heap.size + 1) z1.symm
  have z2 : (u1.alloc (.cells #[.int .i32 99] 21)).heap.size = v1.heap.size + 2 := by rw [World.size_alloc, z1]
  generalize u1.alloc (.cells #[.int .i32 99] 21) = u2 at *
  have yc := ext_alloc u2 (.cells #[.int .u8 1, .int .i64 1, .slice none 0 0, .slice none 0 0, .slice none 0 0, .int .u8 2, .int .i64 0, .slice (some ⟨v1.heap.size + 1, 0, none⟩) 1 1, .slice none 0 0, .slice none 0 0, .int .u8 3, .int .i64 1, .slice none 0 0, .slice none 0 0, .slice none 0 0] 50)
  have hsub : ∀ z ∈ xA19 (v1.heap.size + 1), RdI32 u2 u2.heap.size z.Ar z.o.r ∧ RdAt u2 u2.heap.size z.As z.o.s ∧ RdCh u2 u2.heap.size z.Ap z.o.p := fun z hz => by
    simp only [xA19, List.mem_cons, List.not_mem_nil, or_false] at hz
    rcases hz with rfl | rfl | rfl
    · exact ⟨Rd.nil, Rd.nil, Rd.nil⟩
    · exact ⟨rb, Rd.nil, Rd.nil⟩
    · exact ⟨Rd.nil, Rd.nil, Rd.nil⟩
  have rc := rd_ops u2 (xA19 (v1.heap.size + 1)) hsub (cs := #[.int .u8 1, .int .i64 1, .slice none 0 0, .slice none 0 0, .slice none 0 0, .int .u8 2, .int .i64 0, .slice (some ⟨v1.heap.size + 1, 0, none⟩) 1 1, .slice none 0 0, .slice none 0 0, .int .u8 3, .int .i64 1, .slice none 0 0, .slice none 0 0, .slice none 0 0]) rfl (b := v1.heap.size + 2) z2.symm
  generalize u2.alloc (.cells #[.int .u8 1, .int .i64 1, .slice none 0 0, .slice none 0 0, .slice none 0 0, .int .u8 2, .int .i64 0, .slice (some ⟨v1.heap.size + 1, 0, none⟩) 1 1, .slice none 0 0, .slice none 0 0, .int .u8 3, .int .i64 1, .slice none 0 0, .slice none 0 0, .slice none 0 0] 50) = u3 at *
  have nA : ∀ x ∈ dA19, x.c.s = [] ∧ x.cs = 0 := fun x hx => by
    simp only [dA19, List.mem_cons, List.not_mem_nil, or_false] at hx
    rcases hx with rfl | rfl | rfl <;> exact ⟨rfl, rfl⟩
  have RA := Lib.hid (rdcl_nil19 (ra.ext (ext_trans yb yc)) (fun x hx => (nA x hx).1))
  have OKA : Hid (∀ o ∈ xA19 (v1.heap.size + 1), okOp o.o) := Lib.hid (fun z hz => by
    simp only [xA19, List.mem_cons, List.not_mem_nil, or_false] at hz
    rcases hz with rfl | rfl | rfl <;> exact ok_small _ rfl rfl (by simp [opR, opI, opD]))
  have CA : Hid (∀ z ∈ dA19, z.c.s.length ≤ 100000000 ∧ okVr z.c.s) := Lib.hid (fun x hx => by rw [(nA x hx).1]; exact ⟨by simp, fun c hc => by cases hc⟩)
  have CB : Hid (∀ z ∈ dA19, z.c.s.length ≤ z.cs ∧ z.cs ≤ maxLen) := Lib.hid (fun x hx => by rw [(nA x hx).1, (nA x hx).2]; exact ⟨Nat.le_refl _, by unfold maxLen; omega⟩)
  have Y3 := Lib.hid (ext_trans y (ext_trans ya (ext_trans yb yc)))
  have HS := Lib.hid (hS.ext (ext_trans ya (ext_trans yb yc)))
  refine (applyD_any s kK19 (some ⟨v1.heap.size, 0, none⟩) (some ⟨v1.heap.size + 2, 0, none⟩) 3 3 3 3 dA19 (xA19 (v1.heap.size + 1)) 9 u3 rfl rfl (by omega) (by omega) (by omega) RA.out rc HS.out CA.out CB.out OKA.out (Utf8Tabs_below hT Y3.out)).mono ?_
  clear ya yb yc ra rb rc z1 z2 hsub nA y hS OKA
  rintro e u4 ⟨y4, ⟨hne, _⟩ | ⟨_, A, c, L, rfl, hL, oL, pL⟩⟩
  · exact absurd (a19_zero _) hne
  rw [a19_app] at hL
  have LN : L.length = 3 := by have := congrArg List.length hL; rw [clsOf_len] at this; simpa using this
  obtain ⟨q, hq⟩ : ∃ q, L[1]? = some q := ⟨L[1], List.getElem?_eq_getElem (by omega)⟩
  have hqr : q.c.r = 99 := by
    have h1 := clsOf_at hq
    rw [hL] at h1
    have h2 : (⟨99, []⟩ : Cl) = q.c := by simpa using h1
    rw [← h2]
  have RL := Lib.hid (oL.rd ClS.enc_len)
  have QQ := Lib.hid hq
  have QR := Lib.hid hqr
  have LEN := Lib.hid LN
  have Y4 := Lib.hid (ext_trans Y3.out y4)
  have RA4 := Lib.hid (RA.out.ext y4)
  have HS4 := Lib.hid (HS.out.ext y4)
  clear hL oL pL hq hqr RA HS y4
  rw [LN]
  clear LN
  go_wp2_with (go_at_call 33; refine Hid.out ?_)
  refine Lib.hid ?_
  have yc := ext_alloc u4 (.cells #[.int .u8 3, .int .i64 3, .slice none 0 0, .slice none 0 0, .slice none 0 0] 50)
  have rc := rd_ops u4 xB19 (fun z hz => by
    simp only [xB19, List.mem_cons, List.not_mem_nil, or_false] at hz
    subst hz; exact ⟨Rd.nil, Rd.nil, Rd.nil⟩) (cs := #[.int .u8 3, .int .i64 3, .slice none 0 0, .slice none 0 0, .slice none 0 0]) rfl (b := u4.heap.size) rfl
  refine (applyD_any s kK19 (some ⟨v1.heap.size, 0, none⟩) (some ⟨u4.heap.size, 0, none⟩) 3 3 1 1 dA19 xB19 9 _ rfl rfl (by omega) (by omega) (by omega) (RA4.out.ext yc) rc (HS4.out.ext yc) CA.out CB.out (fun z hz => by
    simp only [xB19, List.mem_cons, List.not_mem_nil, or_false] at hz
    subst hz; exact ok_small _ rfl rfl (by simp [opD])) (Utf8Tabs_below hT (ext_trans Y4.out yc))).mono ?_
  rw [show ApplyOut kK19 xB19 (clsOf dA19) 9 = fun w e w' => ApplyOut kK19 xB19 (clsOf dA19) 9 w e w' from rfl]
  rintro e u5 ⟨y5, ⟨_, rfl⟩ | ⟨hz, _⟩⟩
  rotate_left
  · rw [b19_six] at hz; cases hz
  rw [b19_six]
  have Y5 := Lib.hid (ext_trans yc y5)
  obtain ⟨ad, x, hA, _, _, hx1, hc1⟩ := (RL.out.ext Y5.out).el (i := 1) (by rw [LEN.out]; omega)
  have hxq : x = q := by have := QQ.out; rw [hx1] at this; injection this
  subst hxq
  obtain ⟨⟨qr, qs⟩, qA, qc⟩ := x
  have hq9 : qr = 99 := QR.out
  subst hq9
  obtain ⟨t0', -⟩ := cl_cells hc1
  have t0 : u5.cell? ⟨ad.block, ad.off + 2, none⟩ = some (.int .i32 99) := t0'
  clear t0'
  have yy := ext_trans Y4.out Y5.out
  clear hx1 hc1 QQ QR yc rc y5
  subst hA
  go_wp2_with (fail)
  go_ret
  exact ⟨rfl, yy⟩
end Go.Proofs.YtfnkjcodcoehcaaGreatDoor
