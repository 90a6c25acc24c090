/- Merged texts: RefPut, RefPatLaw, Ref06W. -/
import Derived.Test.YtfnkjcodcoehcaaGreatDoorP34
import Derived.Test.YtfnkjcodcoehcaaGreatDoorP9
import Derived.Test.YtfnkjcodcoehcaaGreatDoorP10
import Derived.Deep.RegionHeld3
import Derived.Test.YtfnkjcodcoehcaaGreatDoorP23
namespace Go.Proofs.YtfnkjcodcoehcaaGreatDoor
open Go.RowKit
set_option linter.unusedVariables false
set_option linter.unusedSimpArgs false

/-- a patch with a change, by rising keys -/
def putF (c : Ch) : List Ch → List Ch
  | [] => [c]
  | x :: t => if c.key ≤ x.key then c :: (x :: t).filter (fun d => !(d.key == c.key)) else x :: putF c t
def putRest (inb : Bool) (c : Ch) (s : List Ch) : List Ch := if inb = true then s.filter (fun d => !(d.key == c.key)) else putF c s
theorem putRest_t (c : Ch) (s : List Ch) : putRest true c s = s.filter (fun d => !(d.key == c.key)) := rfl
theorem putRest_f (c : Ch) (s : List Ch) : putRest false c s = putF c s := rfl
theorem putF_le {c x : Ch} {t : List Ch} (h : c.key ≤ x.key) : putF c (x :: t) = c :: (x :: t).filter (fun d => !(d.key == c.key)) := by rw [putF, if_pos h]
theorem putF_gt {c x : Ch} {t : List Ch} (h : ¬ c.key ≤ x.key) : putF c (x :: t) = x :: putF c t := by rw [putF, if_neg h]
theorem putF_len (c : Ch) : ∀ s : List Ch, (putF c s).length ≤ s.length + 1
  | [] => by simp [putF]
  | x :: t => by
    unfold putF
    split
    · simp only [List.length_cons]; have := List.length_filter_le (fun d : Ch => !(d.key == c.key)) (x :: t); simp only [List.length_cons] at this; omega
    · simp only [List.length_cons]; have := putF_len c t; omega
theorem putF_all {s : List Ch} (hs : Srt Ch.key s) (c : Ch) : Srt Ch.key (putF c s) ∧ (∀ k, lk Ch.key (putF c s) k = if c.key = k then some c else lk Ch.key s k) ∧ ∀ m : Int, m < c.key → (∀ x ∈ s, m < x.key) → ∀ x ∈ putF c s, m < x.key := by
  induction s with
  | nil => exact ⟨(srt_cons Ch.key).2 ⟨by simp, Srt.nil Ch.key⟩, fun k => by rw [putF, lk_cons], fun m h _ x hx => by simp [putF] at hx; subst hx; exact h⟩
  | cons x t ih =>
    obtain ⟨h1, h2⟩ := (srt_cons Ch.key).1 hs
    obtain ⟨g1, g2, g3⟩ := ih h2
    by_cases hk : c.key ≤ x.key
    · rw [putF_le hk]
      refine ⟨(srt_cons Ch.key).2 ⟨fun b hb => ?_, hs.filter Ch.key _⟩, fun k => ?_, fun m hm hl y hy => ?_⟩
      · obtain ⟨hb1, hb2⟩ := List.mem_filter.1 hb
        have hne : b.key ≠ c.key := by simpa using hb2
        have : x.key ≤ b.key := by rcases List.mem_cons.1 hb1 with rfl | hb; exact Int.le_refl _; exact Int.le_of_lt (h1 b hb)
        omega
      · rw [lk_cons]
        by_cases h3 : c.key = k
        · rw [if_pos h3, if_pos h3]
        · rw [if_neg h3, if_neg h3, lk_filter Ch.key hs]
          cases hl : lk Ch.key (x :: t) k with
          | none => rfl
          | some b =>
            have := lk_key Ch.key hl
            have hx : ¬ b.key = c.key := by omega
            simp [Option.filter, hx]
      · rcases List.mem_cons.1 hy with rfl | hy
        · exact hm
        · exact hl y (List.mem_filter.1 hy).1
    · rw [putF_gt hk]
      refine ⟨(srt_cons Ch.key).2 ⟨fun b hb => g3 x.key (by omega) h1 b hb, g1⟩, fun k => ?_, fun m hm hl y hy => ?_⟩
      · rw [lk_cons, lk_cons, g2 k]
        by_cases h3 : x.key = k
        · rw [if_pos h3, if_pos h3, if_neg (by omega)]
        · rw [if_neg h3, if_neg h3]
      · rcases List.mem_cons.1 hy with rfl | hy
        · exact hl y (by simp)
        · exact g3 m hm (fun z hz => hl z (List.mem_cons_of_mem _ hz)) y hy
set_option maxRecDepth 100000 in
set_option maxHeartbeats 1600000 in
theorem put06_any (A : Option Addr) (n c : Nat) (l : List Ch) (a1 : Int) (a6 : Bool) (a2 a3 a4 : Int) (a5 : ByteArray) (w : World) (hn : n = l.length) (h : RdCh w w.heap.size A l) (hb : n ≤ 10000000) :
    Calls Tryz.prog 160 #[.slice A n c, .agg #[.int .i64 a1, .bool a6, .int .u8 a2, .int .i64 a3, .int .u64 a4, .string a5]] w (NewCh (putF ⟨a1, a6, ⟨a2, a3, a4, a5⟩⟩ l) w) := by
  have N := Lib.hid hn
  obtain ⟨R, hR⟩ : ∃ X, putF ⟨a1, a6, ⟨a2, a3, a4, a5⟩⟩ l = X := ⟨_, rfl⟩
  have HR2 := Lib.hid hR
  rw [hR]
  have y := ext_alloc w (.cells #[.int .i64 a1, .bool a6, .int .u8 a2, .int .i64 a3, .int .u64 a4, .string a5] 77)
  have HBX := Lib.hid (heap_alloc_new w (.cells #[.int .i64 a1, .bool a6, .int .u8 a2, .int .i64 a3, .int .u64 a4, .string a5] 77))
  have rs := h.ext y
  clear hn hR h
  go_enter Tryz.func160, Tryz.ntmps160
  go_wp2_with (fail)
  generalize hw1 : w.alloc (.cells #[.int .i64 a1, .bool a6, .int .u8 a2, .int .i64 a3, .int .u64 a4, .string a5] 77) = w1 at *
  go_loopg [5, 6, 7] n (fun g ov bv iv wr => ∃ (m : Nat) (r : List Ch) (inb : Bool), m ≤ n ∧ g = n - m ∧ bv = .bool inb ∧ iv = .int .i64 (m : Int) ∧ OwCh wr w1.heap.size ov r ∧ r.length ≤ m + bnd inb ∧ Below w1.heap.size w1 wr ∧ Hid (r ++ putRest inb ⟨a1, a6, ⟨a2, a3, a4, a5⟩⟩ (l.drop m) = R))
  case atStart => exact ⟨0, [], false, by omega, rfl, rfl, rfl, Ow.nil _ _, by simp, by first | exact Below.refl _ _ | (rw [hw1]; exact Below.refl _ _), Lib.hid (by simpa [putRest] using HR2.out)⟩
  case round =>
    obtain ⟨m, r, inb, hm, hg, rfl, rfl, hown, hrl, yr, HI⟩ := hrel
    have bd := bnd_le inb
    have HG := Lib.hid hg
    clear hg HR2
    have hbx := (yr.block _ (lt_of_some HBX.out)).trans HBX.out
    obtain ⟨b0, b1, b2, b3, b4, b5⟩ := box_ch hbx
    have HB2 := Lib.hid hbx
    clear hbx
    by_cases hlt : m < n
    · obtain ⟨ad, x, rfl, hd1, hx1, hc0⟩ := (rs.ext yr).elIn (i := m) (by have := N.out; omega)
      have hst := HI.out
      rw [hd1] at hst
      obtain ⟨x1, x6, x2, x3, x4, x5⟩ := x
      have CX := Lib.hid hc0
      obtain ⟨r0, r1, r2, r3, r4, r5⟩ := ch_cells CX.out.2
      have HST := Lib.hid hst
      have HX1 := Lib.hid hx1
      have hw2 : IntKind.i64.wrap ((m:Int) + 1) = (m : Int) + 1 := IntWalk.i64_in _ (by omega)
      clear hst hc0 hd1 hx1 HI
      by_cases hk : x1 = a1
      · have hk2 : (x1 == a1) = true := beq_iff_eq.2 hk
        have hk3 : (x1 != a1) = false := by rw [bne, hk2]; rfl
        cases inb with
        | true =>
          have HN : Hid (r ++ putRest true ⟨a1, a6, ⟨a2, a3, a4, a5⟩⟩ (l.drop (m + 1)) = R) := Lib.hid (by rw [← HST.out, putRest_t, putRest_t, List.filter_cons, if_neg (by simp [hk])])
          clear hk
          go_wp2_with (go_quiet (fail))
          go_roundg (n - (m + 1))
          case measure => have := HG.out; omega
          case rel => exact ⟨m + 1, r, true, by omega, rfl, rfl, by go_num, by first | exact hown | exact hown.drewN _, by have := bnd_t; omega, by first | exact yr | exact below_drewN yr _, HN⟩
        | false =>
          have HN : Hid ((r ++ [⟨a1, a6, ⟨a2, a3, a4, a5⟩⟩]) ++ putRest true ⟨a1, a6, ⟨a2, a3, a4, a5⟩⟩ (l.drop (m + 1)) = R) := Lib.hid (by rw [← HST.out, putRest_f, putRest_t, putF_le (by show a1 ≤ x1; omega), List.filter_cons, if_neg (by simp [hk])]; simp)
          have hle : a1 ≤ x1 := by omega
          clear hk
          go_wp2_with (first
            | go_quiet (fail)
            | (at_builtin
               refine app_ch (m := [⟨a1, a6, ⟨a2, a3, a4, a5⟩⟩]) rfl (.tmp 26) (.tmp 28) rfl rfl (by first | exact (hown.drewN _).alloc _ | exact hown.alloc _) _ _ 1 1 rfl rfl (by exact rd_one _ _ _ rfl) (by simp only [List.length_singleton]; omega) (by exact Nat.le_trans yr.size (le_alloc _ _)) ?_
               intro v' w' ho1 hgr hv'
               have s1 := below_app (by first | exact (below_drewN yr _).alloc yr.size _ | exact yr.alloc yr.size _) (by exact Nat.le_trans yr.size (le_alloc _ _)) (by first | exact (hown.drewN _).alloc _ | exact hown.alloc _) (Nat.le_refl _) hgr
               have hbx2 := (s1.block _ (lt_of_some HBX.out)).trans HBX.out
               obtain ⟨q0, q1, q2, q3, q4, q5⟩ := box_ch hbx2
               obtain ⟨ad', x', hA, -, hx2, hc0⟩ := (rs.ext s1).elIn (i := m) (by have := N.out; omega)
               injection hA with hA
               subst hA
               have hx3 := HX1.out
               rw [hx2] at hx3
               injection hx3 with hx3
               subst hx3
               obtain ⟨g0, g1, g2, g3, g4, g5⟩ := ch_cells hc0.2
               have S1 := Lib.hid s1
               have HO1 := Lib.hid ho1
               clear hx2 hc0 hgr hv' hbx2 ho1))
          go_roundg (n - (m + 1))
          case measure => have := HG.out; omega
          case rel => exact ⟨m + 1, r ++ [⟨a1, a6, ⟨a2, a3, a4, a5⟩⟩], true, by omega, rfl, rfl, by go_num, by first | exact HO1.out | exact HO1.out.drewN _, by have := bnd_t; have := bnd_f; simp; omega, by first | exact S1.out | exact below_drewN S1.out _, HN⟩
      · have hk2 : (x1 == a1) = false := beq_eq_false_iff_ne.2 hk
        have hk3 : (x1 != a1) = true := by rw [bne, hk2]; rfl
        cases inb with
        | true =>
          have HN : Hid ((r ++ [⟨x1, x6, ⟨x2, x3, x4, x5⟩⟩]) ++ putRest true ⟨a1, a6, ⟨a2, a3, a4, a5⟩⟩ (l.drop (m + 1)) = R) := Lib.hid (by rw [← HST.out, putRest_t, putRest_t, List.filter_cons, if_pos (by simp [hk2])]; simp)
          clear hk
          go_wp2_with (first
            | go_quiet (fail)
            | (at_builtin; refine app_ch (m := [⟨x1, x6, ⟨x2, x3, x4, x5⟩⟩]) rfl (.tmp 38) (.tmp 43) rfl rfl (by first | exact (hown.drewN _).alloc _ | exact hown.alloc _) _ _ 1 1 rfl rfl (by exact rd_one _ _ _ rfl) (by simp only [List.length_singleton, List.length_append]; omega) (by exact Nat.le_trans yr.size (le_alloc _ _)) ?_; intro v' w' hown' hgr hv'))
          have s1 := below_app (by first | exact (below_drewN yr _).alloc yr.size _ | exact yr.alloc yr.size _) (by exact Nat.le_trans yr.size (le_alloc _ _)) (by first | exact (hown.drewN _).alloc _ | exact hown.alloc _) (Nat.le_refl _) hgr
          go_roundg (n - (m + 1))
          case measure => have := HG.out; omega
          case rel => exact ⟨m + 1, r ++ [⟨x1, x6, ⟨x2, x3, x4, x5⟩⟩], true, by omega, rfl, rfl, by go_num, hown', by have := bnd_t; simp; omega, s1, HN⟩
        | false =>
          by_cases hle : a1 ≤ x1
          · have HN : Hid ((r ++ [⟨a1, a6, ⟨a2, a3, a4, a5⟩⟩]) ++ [⟨x1, x6, ⟨x2, x3, x4, x5⟩⟩] ++ putRest true ⟨a1, a6, ⟨a2, a3, a4, a5⟩⟩ (l.drop (m + 1)) = R) := Lib.hid (by rw [← HST.out, putRest_f, putRest_t, putF_le (x := ⟨x1, x6, ⟨x2, x3, x4, x5⟩⟩) hle, List.filter_cons, if_pos (by simp [hk2])]; simp)
            clear hk
            go_wp2_with (first
              | go_quiet (fail)
              | (at_builtin
                 refine app_ch (m := [⟨a1, a6, ⟨a2, a3, a4, a5⟩⟩]) rfl (.tmp 26) (.tmp 28) rfl rfl (by first | exact (hown.drewN _).alloc _ | exact hown.alloc _) _ _ 1 1 rfl rfl (by exact rd_one _ _ _ rfl) (by simp only [List.length_singleton]; omega) (by exact Nat.le_trans yr.size (le_alloc _ _)) ?_
                 intro v' w' ho1 hgr hv'
                 have s1 := below_app (by first | exact (below_drewN yr _).alloc yr.size _ | exact yr.alloc yr.size _) (by exact Nat.le_trans yr.size (le_alloc _ _)) (by first | exact (hown.drewN _).alloc _ | exact hown.alloc _) (Nat.le_refl _) hgr
                 have hbx2 := (s1.block _ (lt_of_some HBX.out)).trans HBX.out
                 obtain ⟨q0, q1, q2, q3, q4, q5⟩ := box_ch hbx2
                 obtain ⟨ad', x', hA, -, hx2, hc0⟩ := (rs.ext s1).elIn (i := m) (by have := N.out; omega)
                 injection hA with hA
                 subst hA
                 have hx3 := HX1.out
                 rw [hx2] at hx3
                 injection hx3 with hx3
                 subst hx3
                 obtain ⟨g0, g1, g2, g3, g4, g5⟩ := ch_cells hc0.2
                 clear hx2 hc0 hgr hv' hbx2)
              | (at_builtin; refine app_ch (m := [⟨x1, x6, ⟨x2, x3, x4, x5⟩⟩]) rfl (.tmp 38) (.tmp 43) rfl rfl (by first | exact (ho1.drewN _).alloc _ | exact ho1.alloc _) _ _ 1 1 rfl rfl (by exact rd_one _ _ _ rfl) (by simp only [List.length_singleton, List.length_append]; omega) (by exact Nat.le_trans s1.size (le_alloc _ _)) ?_; intro v' w' hown' hgr hv'))
            have s2 := below_app (by first | exact (below_drewN s1 _).alloc s1.size _ | exact s1.alloc s1.size _) (by exact Nat.le_trans s1.size (le_alloc _ _)) (by first | exact (ho1.drewN _).alloc _ | exact ho1.alloc _) (Nat.le_refl _) hgr
            go_roundg (n - (m + 1))
            case measure => have := HG.out; omega
            case rel => exact ⟨m + 1, r ++ [⟨a1, a6, ⟨a2, a3, a4, a5⟩⟩] ++ [⟨x1, x6, ⟨x2, x3, x4, x5⟩⟩], true, by omega, rfl, rfl, by go_num, hown', by have := bnd_t; have := bnd_f; simp; omega, s2, HN⟩
          · have HN : Hid ((r ++ [⟨x1, x6, ⟨x2, x3, x4, x5⟩⟩]) ++ putRest false ⟨a1, a6, ⟨a2, a3, a4, a5⟩⟩ (l.drop (m + 1)) = R) := Lib.hid (by rw [← HST.out, putRest_f, putRest_f, putF_gt (x := ⟨x1, x6, ⟨x2, x3, x4, x5⟩⟩) hle]; simp)
            clear hk
            go_wp2_with (first
              | go_quiet (fail)
              | (at_builtin; refine app_ch (m := [⟨x1, x6, ⟨x2, x3, x4, x5⟩⟩]) rfl (.tmp 38) (.tmp 43) rfl rfl (by first | exact (hown.drewN _).alloc _ | exact hown.alloc _) _ _ 1 1 rfl rfl (by exact rd_one _ _ _ rfl) (by simp only [List.length_singleton, List.length_append]; omega) (by exact Nat.le_trans yr.size (le_alloc _ _)) ?_; intro v' w' hown' hgr hv'))
            have s1 := below_app (by first | exact (below_drewN yr _).alloc yr.size _ | exact yr.alloc yr.size _) (by exact Nat.le_trans yr.size (le_alloc _ _)) (by first | exact (hown.drewN _).alloc _ | exact hown.alloc _) (Nat.le_refl _) hgr
            go_roundg (n - (m + 1))
            case measure => have := HG.out; omega
            case rel => exact ⟨m + 1, r ++ [⟨x1, x6, ⟨x2, x3, x4, x5⟩⟩], false, by omega, rfl, rfl, by go_num, hown', by have := bnd_f; simp; omega, s1, HN⟩
    · have HE : Hid (r ++ putRest inb ⟨a1, a6, ⟨a2, a3, a4, a5⟩⟩ [] = R) := Lib.hid (by have h := HI.out; rwa [List.drop_eq_nil_of_le (by have := N.out; omega)] at h)
      cases inb with
      | true =>
        have hR : r = R := by have h := HE.out; simpa [putRest] using h
        subst hR
        obtain ⟨A', c', rfl, _, _⟩ := hown.form
        have HOW := Lib.hid (hown.base_le (B := w.heap.size) y.size)
        clear hown
        go_wp2_with (fail)
        go_ret
        exact ⟨A', c', rfl, HOW.out, ext_trans y yr⟩
      | false =>
        have hR : r ++ [⟨a1, a6, ⟨a2, a3, a4, a5⟩⟩] = R := by have h := HE.out; simpa [putRest, putF] using h
        have HRR := Lib.hid hR
        clear hR
        go_wp2_with ((at_builtin; refine app_ch (m := [⟨a1, a6, ⟨a2, a3, a4, a5⟩⟩]) rfl (.tmp 47) (.tmp 49) rfl rfl (by first | exact (hown.drewN _).alloc _ | exact hown.alloc _) _ _ 1 1 rfl rfl (by exact rd_one _ _ _ rfl) (by simp only [List.length_singleton, List.length_append]; omega) (by exact Nat.le_trans yr.size (le_alloc _ _)) ?_; intro v' w' hown' hgr hv'))
        have s1 := below_app (by first | exact (below_drewN yr _).alloc yr.size _ | exact yr.alloc yr.size _) (by exact Nat.le_trans yr.size (le_alloc _ _)) (by first | exact (hown.drewN _).alloc _ | exact hown.alloc _) (Nat.le_refl _) hgr
        rw [HRR.out] at hown'
        obtain ⟨A', c', rfl, _, _⟩ := hown'.form
        have HOW := Lib.hid (hown'.base_le (B := w.heap.size) y.size)
        clear hown'
        go_ret
        exact ⟨A', c', rfl, HOW.out, ext_trans y s1⟩

end Go.Proofs.YtfnkjcodcoehcaaGreatDoor
namespace Go.Proofs.YtfnkjcodcoehcaaGreatDoor
open Go.RowKit
set_option linter.unusedVariables false
set_option linter.unusedSimpArgs false

/-- what the document's Compose of patches answers -/
def compR (p q : List Ch) : List Ch := q.foldl (fun o c => putF c o) p
theorem compR_all : ∀ {q : List Ch}, Srt Ch.key q → ∀ {p : List Ch}, Srt Ch.key p → Srt Ch.key (compR p q) ∧ ∀ k, lk Ch.key (compR p q) k = (lk Ch.key q k).or (lk Ch.key p k)
  | [], _, p, hp => ⟨hp, fun k => rfl⟩
  | c :: q, hq, p, hp => by
    obtain ⟨h1, h2⟩ := (srt_cons Ch.key).1 hq
    obtain ⟨a1, a2, _⟩ := putF_all hp c
    obtain ⟨b1, b2⟩ := compR_all h2 a1
    have e : compR p (c :: q) = compR (putF c p) q := rfl
    rw [e]
    refine ⟨b1, fun k => ?_⟩
    rw [b2 k, a2 k, lk_cons]
    by_cases hk : c.key = k
    · rw [if_pos hk, if_pos hk, lk_none Ch.key (fun d hd => by have := h1 d hd; omega)]
      rfl
    · rw [if_neg hk, if_neg hk]
theorem compR_len : ∀ (q p : List Ch), (compR p q).length ≤ p.length + q.length
  | [], p => Nat.le_refl _
  | c :: q, p => by
    have h1 := compR_len q (putF c p)
    have h2 := putF_len c p
    have e : compR p (c :: q) = compR (putF c p) q := rfl
    rw [e]
    simp only [List.length_cons]
    omega
/-- what goes, and what is set, on the way from a set to another one -/
def goneR (a b : List At) : List Ch := (a.filter (fun x => (getA b x.key).isNone)).map goneC
def setR (a b : List At) : List Ch := (b.filter (fun x => !(getA a x.key == some x.v))).map chg
/-- what the document's Diff of sets answers -/
def diffR (a b : List At) : List Ch := compR (compR [] (goneR a b)) (setR a b)
theorem lk_map_chg (l : List At) (k : Int) : lk Ch.key (l.map chg) k = (lk At.key l k).map chg := by
  induction l with
  | nil => rfl
  | cons a l ih =>
    rw [List.map_cons, lk_cons, lk_cons, ih]
    by_cases h : a.key = k <;> simp [h, chg]
theorem diffR_all {a b : List At} (ha : riseA a = true) (hb : riseA b = true) : Srt Ch.key (diffR a b) ∧ ∀ k, lk Ch.key (diffR a b) k = lkDiff (lk At.key a k) (lk At.key b k) := by
  have sa := riseA_srt.1 ha
  have sb := riseA_srt.1 hb
  have g1 : Srt Ch.key (goneR a b) := List.Pairwise.map _ (fun x y h => h) (sa.filter At.key _)
  have g2 : Srt Ch.key (setR a b) := List.Pairwise.map _ (fun x y h => h) (sb.filter At.key _)
  obtain ⟨c1, c2⟩ := compR_all g1 (Srt.nil Ch.key)
  obtain ⟨d1, d2⟩ := compR_all g2 c1
  refine ⟨d1, fun k => ?_⟩
  unfold diffR
  rw [d2 k, c2 k]
  unfold goneR setR
  rw [lk_map_gone, lk_map_chg, lk_filter At.key sa, lk_filter At.key sb, lk_nil]
  cases hx : lk At.key a k with
  | none =>
    cases hy : lk At.key b k with
    | none => rfl
    | some y =>
      have ky := lk_key At.key hy
      simp [Option.filter, getA_lk, ky, hx, lkDiff]
  | some x =>
    have kx := lk_key At.key hx
    cases hy : lk At.key b k with
    | none => simp [Option.filter, getA_lk, kx, hy, lkDiff]
    | some y =>
      have ky := lk_key At.key hy
      by_cases hv : x.v = y.v
      · simp [Option.filter, getA_lk, kx, ky, hx, hy, lkDiff, hv]
      · simp [Option.filter, getA_lk, kx, ky, hx, hy, lkDiff, hv]
theorem diffR_is {a b : List At} (ha : riseA a = true) (hb : riseA b = true) : diffR a b = diffP a b := by
  obtain ⟨a1, a2⟩ := diffR_all ha hb
  obtain ⟨b1, b2, _⟩ := diff_all (riseA_srt.1 hb) (riseA_srt.1 ha)
  exact lk_ext Ch.key a1 b1 fun k => by rw [a2 k, b2 k]
theorem goneR_len (a b : List At) : (goneR a b).length ≤ a.length := by unfold goneR; rw [List.length_map]; exact List.length_filter_le _ _
end Go.Proofs.YtfnkjcodcoehcaaGreatDoor
namespace Go.Proofs.YtfnkjcodcoehcaaGreatDoor
open Go.RowKit
set_option linter.unusedVariables false
set_option linter.unusedSimpArgs false

theorem goneR_drop {a b : List At} {m : Nat} {x : At} (hd : a.drop m = x :: a.drop (m + 1)) : ((a.drop m).filter (fun x => (getA b x.key).isNone)).map goneC = (if (getA b x.key).isNone = true then [goneC x] else []) ++ ((a.drop (m + 1)).filter (fun x => (getA b x.key).isNone)).map goneC := by
  rw [hd, List.filter_cons]; split <;> rfl
theorem setR_drop {a b : List At} {m : Nat} {x : At} (hd : b.drop m = x :: b.drop (m + 1)) : ((b.drop m).filter (fun x => !(getA a x.key == some x.v))).map chg = (if (!(getA a x.key == some x.v)) = true then [chg x] else []) ++ ((b.drop (m + 1)).filter (fun x => !(getA a x.key == some x.v))).map chg := by
  rw [hd, List.filter_cons]; split <;> rfl
theorem compR_app (p q r : List Ch) : compR p (q ++ r) = compR (compR p q) r := by unfold compR; rw [List.foldl_append]
set_option maxRecDepth 100000 in
set_option maxHeartbeats 6400000 in
theorem diff06_any (A B : Option Addr) (n c k d : Nat) (a b : List At) (w : World) (hn : n = a.length) (hk : k = b.length) (h1 : RdAt w w.heap.size A a) (h2 : RdAt w w.heap.size B b) (hb : n ≤ 1000000) (hb2 : k ≤ 1000000) :
    Calls Tryz.prog 86 #[.slice A n c, .slice B k d] w (NewCh (diffR a b) w) := by
  have N := Lib.hid hn
  have K := Lib.hid hk
  have H1 := Lib.hid h1
  have H2 := Lib.hid h2
  obtain ⟨Q, hQ⟩ : ∃ X, compR [] (goneR a b) = X := ⟨_, rfl⟩
  obtain ⟨R, hR⟩ : ∃ X, diffR a b = X := ⟨_, rfl⟩
  have HQ : Hid (compR [] (((a.drop 0).filter (fun x => (getA b x.key).isNone)).map goneC) = Q) := Lib.hid hQ
  have HR : Hid (compR Q (((b.drop 0).filter (fun x => !(getA a x.key == some x.v))).map chg) = R) := Lib.hid (by rw [← hR, ← hQ]; rfl)
  have QL : Hid (Q.length ≤ n) := Lib.hid (by rw [← hQ]; have h := compR_len (goneR a b) []; have := goneR_len a b; simp only [List.length_nil] at h; omega)
  rw [hR]
  clear hn hk h1 h2 hR hQ
  go_enter Tryz.func86, Tryz.ntmps86
  go_wp2_with (fail)
  go_loopg [5, 6] n (fun g ov iv wr => ∃ (m : Nat) (r : List Ch), m ≤ n ∧ g = n - m ∧ iv = .int .i64 (m : Int) ∧ OwCh wr w.heap.size ov r ∧ r.length ≤ m ∧ Below w.heap.size w wr ∧ Hid (compR r (((a.drop m).filter (fun x => (getA b x.key).isNone)).map goneC) = Q))
  case atStart => exact ⟨0, [], Nat.zero_le _, rfl, rfl, Ow.nil _ _, Nat.zero_le _, Below.refl _ _, HQ⟩
  case round =>
    obtain ⟨m, r, hm, hg, rfl, hown, hrl, y, HI⟩ := hrel
    have HG := Lib.hid hg
    clear hg HQ
    by_cases hlt : m < n
    · have hlt' : (m : Int) < (n : Int) := by omega
      obtain ⟨ad, x, rfl, hd1, hx1, hc0⟩ := (H1.out.ext y).elIn (i := m) (by have := N.out; omega)
      have hst := HI.out
      rw [goneR_drop hd1, compR_app] at hst
      obtain ⟨x1, x2, x3, x4, x5⟩ := x
      have CX := Lib.hid hc0
      obtain ⟨r0, r1, r2, r3, r4⟩ := at_cells CX.out.2
      have HST := Lib.hid hst
      have hw2 : IntKind.i64.wrap ((m:Int) + 1) = (m : Int) + 1 := IntWalk.i64_in _ (by omega)
      obtain ⟨A1, c1, rfl, _, _⟩ := hown.form
      clear hst hc0 hd1 hx1 HI
      go_wp2_with (go_at_call 66; refine Hid.out ?_)
      refine Lib.hid ?_
      clear r0 r1 r2 r3 r4
      refine (get05_any B k d b x1 _ K.out (H2.out.ext y) (by omega)).mono ?_
      rintro e w3 ⟨k1, n1, f1, s1, ok, rfl, -, hq, y3⟩
      have y4 := ext_alloc w3 (.cells #[.int .u8 k1, .int .i64 n1, .int .u64 f1, .string s1] 41)
      have y5 := ext_trans y3 y4
      have CX := Lib.hid (CX.out.ext y5)
      have HOW := Lib.hid (hown.below y5 (Nat.le_refl _))
      have y6 := Lib.hid (ext_trans y y5)
      obtain ⟨r0, r1, r2, r3, r4⟩ := at_cells CX.out.2
      have HN : Hid ((getA b x1).isNone = !ok) := Lib.hid (by rw [← hq]; cases getA b x1 <;> rfl)
      clear hq hown y3 y4 y5
      cases ok with
      | true =>
        have HT : Hid (compR r (((a.drop (m + 1)).filter (fun x => (getA b x.key).isNone)).map goneC) = Q) := Lib.hid (by have h := HST.out; (try simp only at h); rw [HN.out] at h; exact h)
        go_wp2_with (fail)
        go_roundg (n - (m + 1))
        case measure => have := HG.out; omega
        case rel => exact ⟨m + 1, r, by omega, rfl, by go_num, HOW.out, by omega, y6.out, HT⟩
      | false =>
        have HT : Hid (compR (putF ⟨x1, true, ⟨0, 0, 0, ⟨#[]⟩⟩⟩ r) (((a.drop (m + 1)).filter (fun x => (getA b x.key).isNone)).map goneC) = Q) := Lib.hid (by have h := HST.out; (try simp only at h); rw [HN.out] at h; exact h)
        have HL : Hid ((putF ⟨x1, true, ⟨0, 0, 0, ⟨#[]⟩⟩⟩ r).length ≤ m + 1) := Lib.hid (by have := putF_len ⟨x1, true, ⟨0, 0, 0, ⟨#[]⟩⟩⟩ r; omega)
        have RR := Lib.hid (HOW.out.rd Ch.enc_len)
        have LB : Hid (r.length ≤ 2000000) := Lib.hid (by omega)
        go_wp2_with (go_at_call 160; refine Hid.out ?_)
        refine Lib.hid ?_
        refine (put06_any A1 r.length c1 r x1 true 0 0 0 ⟨#[]⟩ _ rfl RR.out (by have := LB.out; omega)).mono ?_
        rintro e w5 ⟨A3, c3, rfl, o3, y7⟩
        have O3 := Lib.hid (o3.base_le (B := w.heap.size) y6.out.size)
        have Y7 := Lib.hid (ext_trans y6.out y7)
        clear o3 y7
        go_wp2_with (fail)
        go_roundg (n - (m + 1))
        case measure => have := HG.out; omega
        case rel => exact ⟨m + 1, _, by omega, rfl, by go_num, O3.out, HL.out, Y7.out, HT⟩
    have hlt' : ¬ (m : Int) < (n : Int) := by omega
    have hr : r = Q := by
      have h := HI.out
      rw [List.drop_eq_nil_of_le (by have := N.out; omega)] at h
      exact h
    subst hr
    have HOWN := Lib.hid hown
    clear hown HI HG
    obtain ⟨wv, hwv⟩ : ∃ X, X = wr := ⟨_, rfl⟩
    subst hwv
    go_wp2_with (fail)
    go_loopg [5, 9] k (fun g ov iv wr => ∃ (m : Nat) (r : List Ch), m ≤ k ∧ g = k - m ∧ iv = .int .i64 (m : Int) ∧ OwCh wr w.heap.size ov r ∧ r.length ≤ n + m ∧ Below w.heap.size w wr ∧ Hid (compR r (((b.drop m).filter (fun x => !(getA a x.key == some x.v))).map chg) = R))
    case atStart => exact ⟨0, r, Nat.zero_le _, rfl, rfl, HOWN.out, QL.out, y, HR⟩
    case round =>
      clear HOWN y QL hlt hlt' hrl hm
      obtain ⟨m2, r2, hm, hg, rfl, hown, hrl, y, HI⟩ := hrel
      have HG := Lib.hid hg
      clear hg HR
      by_cases hlt : m2 < k
      · have hlt' : (m2 : Int) < (k : Int) := by omega
        obtain ⟨ad, x, rfl, hd1, hx1, hc0⟩ := (H2.out.ext y).elIn (i := m2) (by have := K.out; omega)
        have hst := HI.out
        rw [setR_drop hd1, compR_app] at hst
        obtain ⟨x1, x2, x3, x4, x5⟩ := x
        have CX := Lib.hid hc0
        obtain ⟨r0, r1, r3, r4, r5⟩ := at_cells CX.out.2
        have HST := Lib.hid hst
        have hw2 : IntKind.i64.wrap ((m2:Int) + 1) = (m2 : Int) + 1 := IntWalk.i64_in _ (by omega)
        obtain ⟨A1, c1, rfl, _, _⟩ := hown.form
        clear hst hc0 hd1 hx1 HI
        go_wp2_with (go_at_call 66; refine Hid.out ?_)
        refine Lib.hid ?_
        clear r0 r1 r3 r4 r5
        refine (get05_any A n c a x1 _ N.out (H1.out.ext y) (by omega)).mono ?_
        rintro e w3 ⟨k1, n1, f1, s1, ok, rfl, hv, hq, y3⟩
        have y4 := ext_alloc w3 (.cells #[.int .u8 k1, .int .i64 n1, .int .u64 f1, .string s1] 41)
        have hbx := heap_alloc_new w3 (.cells #[.int .u8 k1, .int .i64 n1, .int .u64 f1, .string s1] 41)
        have y5 := ext_trans y3 y4
        have CX := Lib.hid (CX.out.ext y5)
        have HOW := Lib.hid (hown.below y5 (Nat.le_refl _))
        have y6 := Lib.hid (ext_trans y y5)
        obtain ⟨r0, r1, r3, r4, r5⟩ := at_cells CX.out.2
        obtain ⟨a0, a1, a2, a3⟩ := box_v hbx
        have HV := Lib.hid hv
        have HO := Lib.hid hq
        clear hv hq hbx hown y3 y4 y5
        have LB : Hid (r2.length ≤ 2000000) := Lib.hid (by omega)
        cases ok with
        | false =>
          have HT : Hid (compR (putF ⟨x1, false, ⟨x2, x3, x4, x5⟩⟩ r2) (((b.drop (m2 + 1)).filter (fun x => !(getA a x.key == some x.v))).map chg) = R) := Lib.hid (by
            have h := HST.out
            have hn : getA a x1 = none := by have := HO.out; cases hg : getA a x1 with | none => rfl | some v => rw [hg] at this; cases this
            simp only [hn] at h
            exact h)
          have HL : Hid ((putF ⟨x1, false, ⟨x2, x3, x4, x5⟩⟩ r2).length ≤ n + (m2 + 1)) := Lib.hid (by have := putF_len ⟨x1, false, ⟨x2, x3, x4, x5⟩⟩ r2; omega)
          have RR := Lib.hid (HOW.out.rd Ch.enc_len)
          go_wp2_with (fail)
          go_quiet (fail)
          go_wp2_with (fail)
          go_region_held3 (fun w' => w'.cell? (ad.add (m2 * 5)) = some (.int .i64 x1) ∧ w'.cell? { block := (ad.add (m2 * 5)).block, off := (ad.add (m2 * 5)).off + 1 } = some (.int .u8 x2) ∧ w'.cell? { block := (ad.add (m2 * 5)).block, off := (ad.add (m2 * 5)).off + 2 } = some (.int .i64 x3) ∧ w'.cell? { block := (ad.add (m2 * 5)).block, off := (ad.add (m2 * 5)).off + 3 } = some (.int .u64 x4) ∧ w'.cell? { block := (ad.add (m2 * 5)).block, off := (ad.add (m2 * 5)).off + 4 } = some (.string x5)) (go_keep) (first
            | (go_at_call 160
               with_reducible refine (put06_any A1 r2.length c1 r2 x1 false x2 x3 x4 x5 ((w3.alloc (.cells #[.int .u8 k1, .int .i64 n1, .int .u64 f1, .string s1] 41)).drewN (nq + 1)) rfl (RR.out.ext (ext_drew (w3.alloc (.cells #[.int .u8 k1, .int .i64 n1, .int .u64 f1, .string s1] 41)) (nq + 1))) (by have := LB.out; omega)).mono ?_
               rintro e w5 ⟨A3, c3, rfl, o3, y7⟩
               have O3 := Lib.hid (o3.base_le (B := w.heap.size) y6.out.size)
               have Y3 := Lib.hid (ext_trans y6.out (ext_trans (ext_drew (w3.alloc (.cells #[.int .u8 k1, .int .i64 n1, .int .u64 f1, .string s1] 41)) (nq + 1)) y7))
               obtain ⟨q0, q1, q2, q3, q4⟩ := at_cells (CX.out.ext (ext_trans (ext_drew (w3.alloc (.cells #[.int .u8 k1, .int .i64 n1, .int .u64 f1, .string s1] 41)) (nq + 1)) y7)).2
               clear o3 y7))
          go_wp2_with (fail)
          go_roundg (k - (m2 + 1))
          case measure => have := HG.out; omega
          case rel => exact ⟨m2 + 1, _, by omega, rfl, by go_num, O3.out, HL.out, Y3.out, HT⟩
        | true =>
          have HS : Hid (getA a x1 = some ⟨k1, n1, f1, s1⟩) := Lib.hid (by
            have h1 := HO.out
            have h2 := HV.out
            cases hg : getA a x1 with
            | none => rw [hg] at h1; cases h1
            | some v => rw [hg] at h2; exact congrArg some h2)
          by_cases hvv : (⟨k1, n1, f1, s1⟩ : V) = ⟨x2, x3, x4, x5⟩
          · have hbv := beqV_eq hvv
            have HT : Hid (compR r2 (((b.drop (m2 + 1)).filter (fun x => !(getA a x.key == some x.v))).map chg) = R) := Lib.hid (by
              have h := HST.out
              simp only [HS.out, hvv] at h
              rw [if_neg (by simp)] at h
              exact h)
            clear hvv
            go_wp2_with (fail)
            go_quiet (fail)
            go_wp2_with (fail)
            go_roundg (k - (m2 + 1))
            case measure => have := HG.out; omega
            case rel => exact ⟨m2 + 1, r2, by omega, rfl, by go_num, HOW.out.drewN _, by omega, below_drewN y6.out _, HT⟩
          · have hbv := beqV_ne hvv
            have HT : Hid (compR (putF ⟨x1, false, ⟨x2, x3, x4, x5⟩⟩ r2) (((b.drop (m2 + 1)).filter (fun x => !(getA a x.key == some x.v))).map chg) = R) := Lib.hid (by
              have h := HST.out
              simp only [HS.out] at h
              rw [if_pos (by simpa using hvv)] at h
              exact h)
            clear hvv
            have HL : Hid ((putF ⟨x1, false, ⟨x2, x3, x4, x5⟩⟩ r2).length ≤ n + (m2 + 1)) := Lib.hid (by have := putF_len ⟨x1, false, ⟨x2, x3, x4, x5⟩⟩ r2; omega)
            have RR := Lib.hid (HOW.out.rd Ch.enc_len)
            go_wp2_with (fail)
            go_quiet (fail)
            go_wp2_with (fail)
            go_region_held3 (fun w' => w'.cell? (ad.add (m2 * 5)) = some (.int .i64 x1) ∧ w'.cell? { block := (ad.add (m2 * 5)).block, off := (ad.add (m2 * 5)).off + 1 } = some (.int .u8 x2) ∧ w'.cell? { block := (ad.add (m2 * 5)).block, off := (ad.add (m2 * 5)).off + 2 } = some (.int .i64 x3) ∧ w'.cell? { block := (ad.add (m2 * 5)).block, off := (ad.add (m2 * 5)).off + 3 } = some (.int .u64 x4) ∧ w'.cell? { block := (ad.add (m2 * 5)).block, off := (ad.add (m2 * 5)).off + 4 } = some (.string x5)) (go_keep) (first
              | (go_at_call 160
                 with_reducible refine (put06_any A1 r2.length c1 r2 x1 false x2 x3 x4 x5 ((w3.alloc (.cells #[.int .u8 k1, .int .i64 n1, .int .u64 f1, .string s1] 41)).drewN (nq + 1)) rfl (RR.out.ext (ext_drew (w3.alloc (.cells #[.int .u8 k1, .int .i64 n1, .int .u64 f1, .string s1] 41)) (nq + 1))) (by have := LB.out; omega)).mono ?_
                 rintro e w5 ⟨A3, c3, rfl, o3, y7⟩
                 have O3 := Lib.hid (o3.base_le (B := w.heap.size) y6.out.size)
                 have Y3 := Lib.hid (ext_trans y6.out (ext_trans (ext_drew (w3.alloc (.cells #[.int .u8 k1, .int .i64 n1, .int .u64 f1, .string s1] 41)) (nq + 1)) y7))
                 obtain ⟨q0, q1, q2, q3, q4⟩ := at_cells (CX.out.ext (ext_trans (ext_drew (w3.alloc (.cells #[.int .u8 k1, .int .i64 n1, .int .u64 f1, .string s1] 41)) (nq + 1)) y7)).2
                 clear o3 y7))
            go_wp2_with (fail)
            go_roundg (k - (m2 + 1))
            case measure => have := HG.out; omega
            case rel => exact ⟨m2 + 1, _, by omega, rfl, by go_num, O3.out, HL.out, Y3.out, HT⟩
      · have hlt' : ¬ (m2 : Int) < (k : Int) := by omega
        have hR : r2 = R := by
          have h := HI.out
          rw [List.drop_eq_nil_of_le (by have := K.out; omega)] at h
          exact h
        subst hR
        obtain ⟨A', c', rfl, _, _⟩ := hown.form
        have HOW := Lib.hid hown
        clear hown
        go_wp2_with (fail)
        go_ret
        exact ⟨A', c', rfl, HOW.out, y⟩
end Go.Proofs.YtfnkjcodcoehcaaGreatDoor
