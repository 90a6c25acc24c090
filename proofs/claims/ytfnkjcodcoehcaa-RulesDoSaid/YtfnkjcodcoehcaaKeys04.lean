/- The walks of rubricref04.Keys and Group. -/
import Derived.Test.YtfnkjcodcoehcaaRef14L
import Derived.Test.YtfnkjcodcoehcaaLawKit
import Derived.BigQuiet
import Derived.Deep.QuietTactic
namespace Go.Proofs.Ytfnkjcodcoehcaa
open Go.RowKit
set_option linter.unusedVariables false
set_option linter.unusedSimpArgs false

set_option maxRecDepth 100000 in
set_option maxHeartbeats 1600000 in
theorem keys04_any (A : Option Addr) (n c : Nat) (l : List Ky) (w : World) (hn : n = l.length) (h : RdKy w w.heap.size A l) (hb : n ≤ 140737488355328) :
    Calls Try.prog 58 #[.slice A n c] w (NewKy (keysL l) w) := by
  have N := Lib.hid hn
  obtain ⟨R, hR⟩ : ∃ X, keysF l 1000 1 = X := ⟨_, rfl⟩
  have HR := Lib.hid hR
  show Calls _ _ _ _ (NewKy (keysF l 1000 1) w)
  rw [hR]
  clear hn hR
  go_enter Try.func58, Try.ntmps58
  go_wp2_with (fail)
  go_loopg [3, 4] 1000 (fun g ov iv wr => ∃ (m : Nat) (r : List Ky), m ≤ 1000 ∧ g = 1000 - m ∧ iv = .int .i64 ((m : Int) + 1) ∧ OwKy wr w.heap.size ov r ∧ r.length ≤ m ∧ Below w.heap.size w wr ∧ Hid (r ++ keysF l (1000 - m) ((m : Int) + 1) = R))
  case atStart => exact ⟨0, [], by omega, rfl, rfl, Ow.nil _ _, by simp, Below.refl _ _, Lib.hid (by simpa using HR.out)⟩
  case round =>
    obtain ⟨m, r, hm, hg, rfl, hown, hrl, y, HI⟩ := hrel
    have HG := Lib.hid hg
    clear hg HR
    by_cases hlt : m < 1000
    · have hle : ((m : Int) + 1) ≤ 1000 := by omega
      have hst := HI.out
      rw [show 1000 - m = (1000 - (m + 1)) + 1 by omega] at hst
      have HST := Lib.hid hst
      have hw2 : IntKind.i64.wrap ((m:Int) + 1 + 1) = (m : Int) + 1 + 1 := IntWalk.i64_in _ (by omega)
      clear hst HI
      go_wp2_with (go_at_call 42; refine Hid.out ?_)
      refine Lib.hid ?_
      refine (findR_any A n c l ((m : Int) + 1) _ N.out (h.ext y) (by omega)).mono ?_
      rintro e w3 ⟨i, k1, kd, k2, k3, q, ok, rfl, hk, hbk, y3⟩
      have y4 := ext_alloc w3 (.cells #[.int .i64 i, .bool k1, .int .u8 kd, .bool k2, .bool k3, .int .i64 q] 53)
      have hbx := heap_alloc_new w3 (.cells #[.int .i64 i, .bool k1, .int .u8 kd, .bool k2, .bool k3, .int .i64 q] 53)
      have y5 := ext_trans y3 y4
      have HOW := Lib.hid (hown.below y5 (Nat.le_refl _))
      have y6 := ext_trans y y5
      obtain ⟨a0, a1, a2, a3, a4, a5⟩ := box_ky hbx
      have HK := Lib.hid hk
      have HB := Lib.hid hbk
      clear hk hbk hbx hown y3 y4 y5
      cases ok with
      | false =>
        have HN : Hid (r ++ keysF l (1000 - (m + 1)) ((m : Int) + 1 + 1) = R) := Lib.hid (keysF_miss HST.out (by
          have h1 := HB.out
          cases hq : findK l ((m : Int) + 1) with
          | none => rfl
          | some k => rw [hq] at h1; cases h1))
        go_wp2_with (fail)
        go_roundg (1000 - (m + 1))
        case measure => have := HG.out; omega
        case rel => exact ⟨m + 1, r, by omega, rfl, by go_num, HOW.out, by omega, y6, HN⟩
      | true =>
        have HN : Hid ((r ++ [⟨i, k1, kd, k2, k3, q⟩]) ++ keysF l (1000 - (m + 1)) ((m : Int) + 1 + 1) = R) := Lib.hid (keysF_hit HST.out (by
          have h1 := HB.out
          have h2 := HK.out
          cases hq : findK l ((m : Int) + 1) with
          | none => rw [hq] at h1; cases h1
          | some k => rw [hq] at h2; simp only [Option.getD_some] at h2; rw [h2]))
        clear HK HB HST
        go_wp2_with ((at_builtin; refine app_ky (m := [⟨i, k1, kd, k2, k3, q⟩]) rfl (.tmp 18) (.tmp 20) rfl rfl (by first | exact (HOW.out.drewN _).alloc _ | exact HOW.out.alloc _) _ _ 1 1 rfl rfl (by first | exact rd_one _ _ _ rfl | exact rd_one_at (enc := Ky.enc) (size := 6) (w3.alloc _) _ ⟨i, k1, kd, k2, k3, q⟩ rfl (by rw [World.size_alloc])) (by simp only [List.length_singleton]; omega) (by exact Nat.le_trans y6.size (le_alloc _ _)) ?_; intro v' w' hown' hgr hv'))
        have s1 := below_app (by first | exact (below_drewN y6 _).alloc y6.size _ | exact y6.alloc y6.size _) (by exact Nat.le_trans y6.size (le_alloc _ _)) (by first | exact (HOW.out.drewN _).alloc _ | exact HOW.out.alloc _) (Nat.le_refl _) hgr
        go_roundg (1000 - (m + 1))
        case measure => have := HG.out; omega
        case rel => exact ⟨m + 1, r ++ [⟨i, k1, kd, k2, k3, q⟩], by omega, rfl, by go_num, hown', by simp; omega, s1, HN⟩
    · have hgt : ¬ ((m : Int) + 1) ≤ 1000 := by omega
      have hR : r = R := by
        have h := HI.out
        rw [show 1000 - m = 0 by omega] at h
        simpa [keysF] using h
      subst hR
      obtain ⟨A', c', rfl, _, _⟩ := hown.form
      have HOW := Lib.hid hown
      clear hown
      go_wp2_with (fail)
      go_ret
      exact ⟨A', c', rfl, HOW.out, y⟩

/-- what rubricref04.Group answers -/
def GroupOut4 (l : List Ky) (id : Int) (w : World) (e : Ending) (w' : World) : Prop :=
  ∃ (g : List Int) (A : Option Addr) (c : Nat), e = .returned (.slice A g.length c) ∧ (∀ k, k ∈ g ↔ k ∈ groupL l id) ∧ g.length ≤ 1000 ∧ OwInt w' w.heap.size (.slice A g.length c) g ∧ Below w.heap.size w w'
theorem othersL_cons {x : Ky} {t : List Ky} {g id : Int} : othersL (x :: t) g id = (if x.group = g ∧ ¬ x.id = id then [x.id] else []) ++ othersL t g id := by
  unfold othersL
  rw [List.filter_cons]
  by_cases h1 : x.group = g <;> by_cases h2 : x.id = id <;> simp [h1, h2]
set_option maxRecDepth 100000 in
set_option maxHeartbeats 3200000 in
theorem group04_any (A : Option Addr) (n c : Nat) (l : List Ky) (id : Int) (w : World) (hn : n = l.length) (h : RdKy w w.heap.size A l) (hb : n ≤ 140737488355328) (hm : mayKs l = true) :
    Calls Try.prog 39 #[.slice A n c, .int .i64 id] w (GroupOut4 l id w) := by
  have N := Lib.hid hn
  have HM := Lib.hid hm
  clear hn hm
  go_enter Try.func39, Try.ntmps39
  go_wp2_with (go_at_call 42; refine Hid.out ?_)
  refine Lib.hid ?_
  refine (findR_any A n c l id _ N.out h (by omega)).mono ?_
  rintro e w1 ⟨i, k1, kd, k2, k3, q, ok, rfl, hk, hbk, y1⟩
  have y2 := ext_alloc w1 (.cells #[.int .i64 i, .bool k1, .int .u8 kd, .bool k2, .bool k3, .int .i64 q] 53)
  have hbx := heap_alloc_new w1 (.cells #[.int .i64 i, .bool k1, .int .u8 kd, .bool k2, .bool k3, .int .i64 q] 53)
  have y := ext_trans y1 y2
  have HK := Lib.hid hk
  have HB := Lib.hid hbk
  have HBX := Lib.hid hbx
  clear hk hbk hbx y1 y2
  go_wp2_with (go_at_call 58; refine Hid.out ?_)
  refine Lib.hid ?_
  refine (keys04_any A n c l _ N.out (h.ext y) (by omega)).mono ?_
  rintro e w2 ⟨A2, c2, rfl, ho, y3⟩
  have HBX := Lib.hid ((y3.block _ (lt_of_some HBX.out)).trans HBX.out)
  replace y := ext_trans y y3
  have HL := Lib.hid (ho.rd Ky.enc_len)
  have hlen : (keysL l).length ≤ 1000 := keysF_len _ _ _
  have HMEM := Lib.hid (groupR_mem HM.out id)
  obtain ⟨ls, hls⟩ : ∃ X, keysL l = X := ⟨_, rfl⟩
  have HLS := Lib.hid hls
  rw [hls] at HL hlen ⊢
  obtain ⟨n2, hn2⟩ : ∃ X, X = ls.length := ⟨_, rfl⟩
  rw [← hn2] at hlen ⊢
  have N2 := Lib.hid hn2
  clear ho y3 hls hn2
  obtain ⟨R, hR⟩ : ∃ R, R = groupR l id := ⟨_, rfl⟩
  rw [← hR] at HMEM
  have HR0 := Lib.hid hR
  clear hR
  by_cases hgo : ok = true ∧ ¬ q = 0
  rotate_left
  · have HRN : Hid (R = []) := Lib.hid (by
      rw [HR0.out]
      unfold groupR
      have h1 := HB.out
      have h2 := HK.out
      cases hq : findK l id with
      | none => rfl
      | some k =>
        rw [hq] at h1 h2
        simp only [Option.getD_some, Option.isSome_some] at h1 h2
        subst h2
        simp only
        rw [if_pos (Classical.byContradiction fun hne => hgo ⟨h1.symm, hne⟩)])
    have hcase : ok = false ∨ (ok = true ∧ q = 0) := by
      cases ok
      · exact .inl rfl
      · exact .inr ⟨rfl, Classical.byContradiction fun hne => hgo ⟨rfl, hne⟩⟩
    clear hgo HR0 HK HB HLS
    go_wp2_with (fail)
    go_loopg [5, 9] 1 (fun g ov iv wr => ov = .slice none 0 0 ∧ iv = .int .i64 0 ∧ wr = w2)
    case atStart => exact ⟨rfl, rfl, rfl⟩
    case round =>
      obtain ⟨rfl, rfl, rfl⟩ := hrel
      obtain ⟨a0, a1, a2, a3, a4, a5⟩ := box_ky HBX.out
      rcases hcase with rfl | ⟨rfl, rfl⟩
      · go_wp2_with (fail)
        go_ret
        exact ⟨[], none, 0, rfl, by rw [HRN.out] at HMEM; exact HMEM.out, by simp, Ow.nil _ _, y⟩
      · go_wp2_with (fail)
        go_ret
        exact ⟨[], none, 0, rfl, by rw [HRN.out] at HMEM; exact HMEM.out, by simp, Ow.nil _ _, y⟩
  obtain ⟨rfl, hq0⟩ := hgo
  have HRE : Hid (othersL ls q id = R) := Lib.hid (by
    rw [HR0.out]
    unfold groupR
    have h1 := HB.out
    have h2 := HK.out
    cases hq : findK l id with
    | none => rw [hq] at h1; cases h1
    | some k =>
      rw [hq] at h2
      simp only [Option.getD_some] at h2
      subst h2
      simp only
      rw [if_neg hq0, HLS.out])
  have hqb : (q != 0) = true := by rw [bne_iff_ne]; exact hq0
  have hqc : (q == 0) = false := beq_eq_false_iff_ne.2 hq0
  clear HR0 HK HB HLS hq0
  go_wp2_with (fail)
  go_loopg [5, 9] n2 (fun g ov iv wr => ∃ (m : Nat) (r : List Int), m ≤ n2 ∧ g = n2 - m ∧ iv = .int .i64 (m : Int) ∧ OwInt wr w2.heap.size ov r ∧ r.length ≤ m ∧ Below w2.heap.size w2 wr ∧ Hid (r ++ othersL (ls.drop m) q id = R))
  case atStart => exact ⟨0, [], by omega, rfl, rfl, Ow.nil _ _, by simp, Below.refl _ _, Lib.hid (by simpa using HRE.out)⟩
  case round =>
    obtain ⟨m, r, hm, hg, rfl, hown, hrl, ym, HI⟩ := hrel
    have HG := Lib.hid hg
    clear hg HRE
    obtain ⟨a0, a1, a2, a3, a4, a5⟩ := box_ky ((ym.block _ (lt_of_some HBX.out)).trans HBX.out)
    by_cases hlt : m < n2
    · obtain ⟨ad, x, rfl, hd1, hx1, hc0⟩ := (HL.out.ext ym).elIn (i := m) (by have := N2.out; omega)
      have hst := HI.out
      rw [hd1, othersL_cons] at hst
      obtain ⟨x1, x2, x3, x4, x5, x6⟩ := x
      simp only at hst
      have HST := Lib.hid hst
      obtain ⟨r0, r1, r2, r3, r4, r5⟩ := ky_cells hc0.2
      have hw2 : IntKind.i64.wrap ((m:Int) + 1) = (m : Int) + 1 := IntWalk.i64_in _ (by omega)
      have HOW := Lib.hid hown
      clear hst hd1 hx1 HI hown hc0
      by_cases hg1 : x6 = q
      · subst hg1
        by_cases hg2 : x1 = id
        · subst hg2
          have HN : Hid (r ++ othersL (ls.drop (m + 1)) x6 x1 = R) := Lib.hid (by have := HST.out; simpa using this)
          clear HST
          go_wp2_with (fail)
          go_quiet (fail)
          go_wp2_with (fail)
          go_roundg (n2 - (m + 1))
          case measure => have := HG.out; omega
          case rel => exact ⟨m + 1, r, by omega, rfl, by go_num, by first | exact HOW.out | exact HOW.out.drewN _, by omega, by first | exact ym | exact below_drewN ym _, HN⟩
        · have hgb : (x1 == id) = false := beq_eq_false_iff_ne.2 hg2
          have hgc : (x1 != id) = true := by rw [bne_iff_ne]; exact hg2
          have HN : Hid ((r ++ [x1]) ++ othersL (ls.drop (m + 1)) x6 id = R) := Lib.hid (by have := HST.out; simpa [hg2] using this)
          clear HST hg2
          go_wp2_with (fail)
          go_quiet (fail)
          go_wp2_with ((at_builtin; refine app_int (m := [x1]) rfl (.tmp 49) (.tmp 55) rfl rfl (by first | exact (HOW.out.drewN _).alloc _ | exact HOW.out.alloc _) _ _ 1 1 rfl rfl (by first | exact rd_one (enc := encInt) _ _ _ rfl | exact rd_one_at (enc := encInt) (size := 1) _ _ x1 rfl (by rw [World.size_alloc])) (by simp only [List.length_singleton]; omega) (by exact Nat.le_trans ym.size (le_alloc _ _)) ?_; intro v' w' hown' hgr hv'))
          have s1 := below_app (by first | exact (below_drewN ym _).alloc ym.size _ | exact ym.alloc ym.size _) (by exact Nat.le_trans ym.size (le_alloc _ _)) (by first | exact (HOW.out.drewN _).alloc _ | exact HOW.out.alloc _) (Nat.le_refl _) hgr
          go_roundg (n2 - (m + 1))
          case measure => have := HG.out; omega
          case rel => exact ⟨m + 1, r ++ [x1], by omega, rfl, by go_num, hown', by simp; omega, s1, HN⟩
      · have hgb : (x6 == q) = false := beq_eq_false_iff_ne.2 hg1
        have HN : Hid (r ++ othersL (ls.drop (m + 1)) q id = R) := Lib.hid (by have := HST.out; simpa [hg1] using this)
        clear HST hg1
        go_wp2_with (fail)
        go_quiet (fail)
        go_wp2_with (fail)
        go_roundg (n2 - (m + 1))
        case measure => have := HG.out; omega
        case rel => exact ⟨m + 1, r, by omega, rfl, by go_num, by first | exact HOW.out | exact HOW.out.drewN _, by omega, by first | exact ym | exact below_drewN ym _, HN⟩
    · have hR : r = R := by
        have h := HI.out
        rw [List.drop_eq_nil_of_le (by have := N2.out; omega)] at h
        simpa [othersL] using h
      subst hR
      obtain ⟨A', c', rfl, _, _⟩ := hown.form
      have HOW := Lib.hid hown
      clear hown
      go_wp2_with (fail)
      go_ret
      exact ⟨r, A', c', rfl, HMEM.out, by omega, HOW.out.base_le y.size, ext_trans y ym⟩
end Go.Proofs.Ytfnkjcodcoehcaa
