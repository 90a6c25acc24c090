/- The walks of the document's functions of patches: Find, Put. -/
import Derived.Test.YtfnkjcodcoehcaaRefSet
namespace Go.Proofs.Ytfnkjcodcoehcaa
open Go.RowKit
set_option linter.unusedVariables false
set_option linter.unusedSimpArgs false

/-- what the document's Find answers -/
def FindOut6 (l : List Ch) (id : Int) (w : World) (e : Ending) (w' : World) : Prop :=
  ∃ i g k n f s q, e = .returned (.tuple #[.agg #[.int .i64 i, .bool g, .int .u8 k, .int .i64 n, .int .u64 f, .string s], .bool q]) ∧ (lk Ch.key l id).getD ⟨0, false, V.zero⟩ = ⟨i, g, ⟨k, n, f, s⟩⟩ ∧ (lk Ch.key l id).isSome = q ∧ Below w.heap.size w w'
theorem lkC_drop {l : List Ch} {m : Nat} {x : Ch} {id : Int} {R : Option Ch} (hd : l.drop m = x :: l.drop (m + 1)) (h : lk Ch.key (l.drop m) id = R) (hx : ¬ x.key = id) : lk Ch.key (l.drop (m + 1)) id = R := by
  rw [hd, lk_cons, if_neg hx] at h; exact h
theorem lkC_hit {l : List Ch} {m : Nat} {x : Ch} {id : Int} {R : Option Ch} (hd : l.drop m = x :: l.drop (m + 1)) (h : lk Ch.key (l.drop m) id = R) (hx : x.key = id) : R = some x := by
  rw [hd, lk_cons, if_pos hx] at h; exact h.symm
set_option maxRecDepth 100000 in
set_option maxHeartbeats 800000 in
theorem find06_any (A : Option Addr) (n c : Nat) (l : List Ch) (id : Int) (w : World) (hn : n = l.length) (h : RdCh w w.heap.size A l) (hb : n ≤ 140737488355328) :
    Calls Try.prog 40 #[.slice A n c, .int .i64 id] w (FindOut6 l id w) := by
  have N := Lib.hid hn
  obtain ⟨R, hR⟩ : ∃ X, lk Ch.key l id = X := ⟨_, rfl⟩
  have HR := Lib.hid hR
  clear hn
  unfold FindOut6
  rw [hR]
  clear hR
  have y0 := ext_alloc w (.cells #[.int .i64 0, .bool false, .int .u8 0, .int .i64 0, .int .u64 0, .string ⟨#[]⟩] 49)
  have HB := Lib.hid (heap_alloc_new w (.cells #[.int .i64 0, .bool false, .int .u8 0, .int .i64 0, .int .u64 0, .string ⟨#[]⟩] 49))
  go_enter Try.func40, Try.ntmps40
  go_wp2_with (fail)
  go_loopg [6] n (fun g iv wr => ∃ m : Nat, m ≤ n ∧ g = n - m ∧ iv = .int .i64 (m : Int) ∧ wr = w.alloc (.cells #[.int .i64 0, .bool false, .int .u8 0, .int .i64 0, .int .u64 0, .string ⟨#[]⟩] 49) ∧ Hid (lk Ch.key (l.drop m) id = R))
  case atStart => exact ⟨0, by omega, rfl, rfl, rfl, Lib.hid (by rw [List.drop_zero]; exact HR.out)⟩
  case round =>
    obtain ⟨m, hm, hg, rfl, rfl, HI⟩ := hrel
    have HG := Lib.hid hg
    clear hg HR
    by_cases hlt : m < n
    · obtain ⟨ad, x, rfl, hd1, _, hc0⟩ := (h.ext y0).elIn (i := m) (by have := N.out; omega)
      have HD := Lib.hid hd1
      obtain ⟨x1, x6, x2, x3, x4, x5⟩ := x
      obtain ⟨r0, r1, r2, r3, r4, r5⟩ := ch_cells hc0.2
      clear hc0 hd1
      have hw2 : IntKind.i64.wrap ((m:Int) + 1) = (m : Int) + 1 := IntWalk.i64_in _ (by omega)
      obtain ⟨b0, b1, b2, b3, b4, b5⟩ := box_ch HB.out
      by_cases hle : x1 = id
      · subst hle
        go_wp2_with (fail)
        refine bodyPost_ret (v := .tuple #[.agg #[.int .i64 x1, .bool x6, .int .u8 x2, .int .i64 x3, .int .u64 x4, .string x5], .bool true]) (by simp [results, Try.results40, go_sem]) rfl ?_
        have hr := lkC_hit HD.out HI.out rfl
        exact ⟨x1, x6, x2, x3, x4, x5, true, rfl, by rw [hr]; rfl, by rw [hr]; rfl, by first | exact ext_alloc w _ | trace_state⟩
      · go_wp2_with (fail)
        go_roundg (n - (m + 1))
        case measure => have := HG.out; omega
        case rel => exact ⟨m + 1, by omega, rfl, by go_num, rfl, Lib.hid (lkC_drop HD.out HI.out hle)⟩
    · have HE : Hid (R = none) := Lib.hid (by have h := HI.out; rw [List.drop_eq_nil_of_le (by have := N.out; omega), lk_nil] at h; exact h.symm)
      go_wp2_with (fail)
      refine bodyPost_ret (v := .tuple #[.agg #[.int .i64 0, .bool false, .int .u8 0, .int .i64 0, .int .u64 0, .string ⟨#[]⟩], .bool false]) (by simp [results, Try.results40, go_sem]) rfl ?_
      exact ⟨0, false, 0, 0, 0, ⟨#[]⟩, false, rfl, by rw [HE.out]; rfl, by rw [HE.out]; rfl, by first | exact ext_trans (ext_alloc w _) (ext_alloc _ _) | exact ext_alloc w _ | trace_state⟩

/-- a patch with a change, by rising keys -/
def putF (c : Ch) : List Ch → List Ch
  | [] => [c]
  | x :: t => if c.key ≤ x.key then c :: (x :: t).filter (fun d => !(d.key == c.key)) else x :: putF c t
def putRest (inb : Bool) (c : Ch) (s : List Ch) : List Ch := if inb = true then s.filter (fun d => !(d.key == c.key)) else putF c s
theorem putRest_t (c : Ch) (s : List Ch) : putRest true c s = s.filter (fun d => !(d.key == c.key)) := rfl
theorem putRest_f (c : Ch) (s : List Ch) : putRest false c s = putF c s := rfl
theorem putF_le {c x : Ch} {t : List Ch} (h : c.key ≤ x.key) : putF c (x :: t) = c :: (x :: t).filter (fun d => !(d.key == c.key)) := by rw [putF, if_pos h]
theorem putF_gt {c x : Ch} {t : List Ch} (h : ¬ c.key ≤ x.key) : putF c (x :: t) = x :: putF c t := by rw [putF, if_neg h]
theorem putF_len (c : Ch) : ∀ s : List Ch, (putF c s).length ≤ s.length + 1
  | [] => by simp [putF]
  | x :: t => by
    unfold putF
    split
    · simp only [List.length_cons]; have := List.length_filter_le (fun d : Ch => !(d.key == c.key)) (x :: t); simp only [List.length_cons] at this; omega
    · simp only [List.length_cons]; have := putF_len c t; omega
theorem putF_all {s : List Ch} (hs : Srt Ch.key s) (c : Ch) : Srt Ch.key (putF c s) ∧ (∀ k, lk Ch.key (putF c s) k = if c.key = k then some c else lk Ch.key s k) ∧ ∀ m : Int, m < c.key → (∀ x ∈ s, m < x.key) → ∀ x ∈ putF c s, m < x.key := by
  induction s with
  | nil => exact ⟨(srt_cons Ch.key).2 ⟨by simp, Srt.nil Ch.key⟩, fun k => by rw [putF, lk_cons], fun m h _ x hx => by simp [putF] at hx; subst hx; exact h⟩
  | cons x t ih =>
    obtain ⟨h1, h2⟩ := (srt_cons Ch.key).1 hs
    obtain ⟨g1, g2, g3⟩ := ih h2
    by_cases hk : c.key ≤ x.key
    · rw [putF_le hk]
      refine ⟨(srt_cons Ch.key).2 ⟨fun b hb => ?_, hs.filter Ch.key _⟩, fun k => ?_, fun m hm hl y hy => ?_⟩
      · obtain ⟨hb1, hb2⟩ := List.mem_filter.1 hb
        have hne : b.key ≠ c.key := by simpa using hb2
        have : x.key ≤ b.key := by rcases List.mem_cons.1 hb1 with rfl | hb; exact Int.le_refl _; exact Int.le_of_lt (h1 b hb)
        omega
      · rw [lk_cons]
        by_cases h3 : c.key = k
        · rw [if_pos h3, if_pos h3]
        · rw [if_neg h3, if_neg h3, lk_filter Ch.key hs]
          cases hl : lk Ch.key (x :: t) k with
          | none => rfl
          | some b =>
            have := lk_key Ch.key hl
            have hx : ¬ b.key = c.key := by omega
            simp [Option.filter, hx]
      · rcases List.mem_cons.1 hy with rfl | hy
        · exact hm
        · exact hl y (List.mem_filter.1 hy).1
    · rw [putF_gt hk]
      refine ⟨(srt_cons Ch.key).2 ⟨fun b hb => g3 x.key (by omega) h1 b hb, g1⟩, fun k => ?_, fun m hm hl y hy => ?_⟩
      · rw [lk_cons, lk_cons, g2 k]
        by_cases h3 : x.key = k
        · rw [if_pos h3, if_pos h3, if_neg (by omega)]
        · rw [if_neg h3, if_neg h3]
      · rcases List.mem_cons.1 hy with rfl | hy
        · exact hl y (by simp)
        · exact g3 m hm (fun z hz => hl z (List.mem_cons_of_mem _ hz)) y hy
set_option maxRecDepth 100000 in
set_option maxHeartbeats 1600000 in
theorem put06_any (A : Option Addr) (n c : Nat) (l : List Ch) (a1 : Int) (a6 : Bool) (a2 a3 a4 : Int) (a5 : ByteArray) (w : World) (hn : n = l.length) (h : RdCh w w.heap.size A l) (hb : n ≤ 10000000) :
    Calls Try.prog 41 #[.slice A n c, .agg #[.int .i64 a1, .bool a6, .int .u8 a2, .int .i64 a3, .int .u64 a4, .string a5]] w (NewCh (putF ⟨a1, a6, ⟨a2, a3, a4, a5⟩⟩ l) w) := by
  have N := Lib.hid hn
  obtain ⟨R, hR⟩ : ∃ X, putF ⟨a1, a6, ⟨a2, a3, a4, a5⟩⟩ l = X := ⟨_, rfl⟩
  have HR2 := Lib.hid hR
  rw [hR]
  have y := ext_alloc w (.cells #[.int .i64 a1, .bool a6, .int .u8 a2, .int .i64 a3, .int .u64 a4, .string a5] 49)
  have HBX := Lib.hid (heap_alloc_new w (.cells #[.int .i64 a1, .bool a6, .int .u8 a2, .int .i64 a3, .int .u64 a4, .string a5] 49))
  have rs := h.ext y
  clear hn hR h
  go_enter Try.func41, Try.ntmps41
  go_wp2_with (fail)
  generalize hw1 : w.alloc (.cells #[.int .i64 a1, .bool a6, .int .u8 a2, .int .i64 a3, .int .u64 a4, .string a5] 49) = w1 at *
  go_loopg [5, 6, 7] n (fun g ov bv iv wr => ∃ (m : Nat) (r : List Ch) (inb : Bool), m ≤ n ∧ g = n - m ∧ bv = .bool inb ∧ iv = .int .i64 (m : Int) ∧ OwCh wr w1.heap.size ov r ∧ r.length ≤ m + bnd inb ∧ Below w1.heap.size w1 wr ∧ Hid (r ++ putRest inb ⟨a1, a6, ⟨a2, a3, a4, a5⟩⟩ (l.drop m) = R))
  case atStart => exact ⟨0, [], false, by omega, rfl, rfl, rfl, Ow.nil _ _, by simp, by first | exact Below.refl _ _ | (rw [hw1]; exact Below.refl _ _), Lib.hid (by simpa [putRest] using HR2.out)⟩
  case round =>
    obtain ⟨m, r, inb, hm, hg, rfl, rfl, hown, hrl, yr, HI⟩ := hrel
    have bd := bnd_le inb
    have HG := Lib.hid hg
    clear hg HR2
    have hbx := (yr.block _ (lt_of_some HBX.out)).trans HBX.out
    obtain ⟨b0, b1, b2, b3, b4, b5⟩ := box_ch hbx
    have HB2 := Lib.hid hbx
    clear hbx
    by_cases hlt : m < n
    · obtain ⟨ad, x, rfl, hd1, hx1, hc0⟩ := (rs.ext yr).elIn (i := m) (by have := N.out; omega)
      have hst := HI.out
      rw [hd1] at hst
      obtain ⟨x1, x6, x2, x3, x4, x5⟩ := x
      have CX := Lib.hid hc0
      obtain ⟨r0, r1, r2, r3, r4, r5⟩ := ch_cells CX.out.2
      have HST := Lib.hid hst
      have HX1 := Lib.hid hx1
      have hw2 : IntKind.i64.wrap ((m:Int) + 1) = (m : Int) + 1 := IntWalk.i64_in _ (by omega)
      clear hst hc0 hd1 hx1 HI
      by_cases hk : x1 = a1
      · have hk2 : (x1 == a1) = true := beq_iff_eq.2 hk
        have hk3 : (x1 != a1) = false := by rw [bne, hk2]; rfl
        cases inb with
        | true =>
          have HN : Hid (r ++ putRest true ⟨a1, a6, ⟨a2, a3, a4, a5⟩⟩ (l.drop (m + 1)) = R) := Lib.hid (by rw [← HST.out, putRest_t, putRest_t, List.filter_cons, if_neg (by simp [hk])])
          clear hk
          go_wp2_with (go_quiet (fail))
          go_roundg (n - (m + 1))
          case measure => have := HG.out; omega
          case rel => exact ⟨m + 1, r, true, by omega, rfl, rfl, by go_num, by first | exact hown | exact hown.drewN _, by have := bnd_t; omega, by first | exact yr | exact below_drewN yr _, HN⟩
        | false =>
          have HN : Hid ((r ++ [⟨a1, a6, ⟨a2, a3, a4, a5⟩⟩]) ++ putRest true ⟨a1, a6, ⟨a2, a3, a4, a5⟩⟩ (l.drop (m + 1)) = R) := Lib.hid (by rw [← HST.out, putRest_f, putRest_t, putF_le (by show a1 ≤ x1; omega), List.filter_cons, if_neg (by simp [hk])]; simp)
          have hle : a1 ≤ x1 := by omega
          clear hk
          go_wp2_with (first
            | go_quiet (fail)
            | (at_builtin
               refine app_ch (m := [⟨a1, a6, ⟨a2, a3, a4, a5⟩⟩]) rfl (.tmp 26) (.tmp 28) rfl rfl (by first | exact (hown.drewN _).alloc _ | exact hown.alloc _) _ _ 1 1 rfl rfl (by exact rd_one _ _ _ rfl) (by simp only [List.length_singleton]; omega) (by exact Nat.le_trans yr.size (le_alloc _ _)) ?_
               intro v' w' ho1 hgr hv'
               have s1 := below_app (by first | exact (below_drewN yr _).alloc yr.size _ | exact yr.alloc yr.size _) (by exact Nat.le_trans yr.size (le_alloc _ _)) (by first | exact (hown.drewN _).alloc _ | exact hown.alloc _) (Nat.le_refl _) hgr
               have hbx2 := (s1.block _ (lt_of_some HBX.out)).trans HBX.out
               obtain ⟨q0, q1, q2, q3, q4, q5⟩ := box_ch hbx2
               obtain ⟨ad', x', hA, -, hx2, hc0⟩ := (rs.ext s1).elIn (i := m) (by have := N.out; omega)
               injection hA with hA
               subst hA
               have hx3 := HX1.out
               rw [hx2] at hx3
               injection hx3 with hx3
               subst hx3
               obtain ⟨g0, g1, g2, g3, g4, g5⟩ := ch_cells hc0.2
               have S1 := Lib.hid s1
               have HO1 := Lib.hid ho1
               clear hx2 hc0 hgr hv' hbx2 ho1))
          go_roundg (n - (m + 1))
          case measure => have := HG.out; omega
          case rel => exact ⟨m + 1, r ++ [⟨a1, a6, ⟨a2, a3, a4, a5⟩⟩], true, by omega, rfl, rfl, by go_num, by first | exact HO1.out | exact HO1.out.drewN _, by have := bnd_t; have := bnd_f; simp; omega, by first | exact S1.out | exact below_drewN S1.out _, HN⟩
      · have hk2 : (x1 == a1) = false := beq_eq_false_iff_ne.2 hk
        have hk3 : (x1 != a1) = true := by rw [bne, hk2]; rfl
        cases inb with
        | true =>
          have HN : Hid ((r ++ [⟨x1, x6, ⟨x2, x3, x4, x5⟩⟩]) ++ putRest true ⟨a1, a6, ⟨a2, a3, a4, a5⟩⟩ (l.drop (m + 1)) = R) := Lib.hid (by rw [← HST.out, putRest_t, putRest_t, List.filter_cons, if_pos (by simp [hk2])]; simp)
          clear hk
          go_wp2_with (first
            | go_quiet (fail)
            | (at_builtin; refine app_ch (m := [⟨x1, x6, ⟨x2, x3, x4, x5⟩⟩]) rfl (.tmp 38) (.tmp 43) rfl rfl (by first | exact (hown.drewN _).alloc _ | exact hown.alloc _) _ _ 1 1 rfl rfl (by exact rd_one _ _ _ rfl) (by simp only [List.length_singleton, List.length_append]; omega) (by exact Nat.le_trans yr.size (le_alloc _ _)) ?_; intro v' w' hown' hgr hv'))
          have s1 := below_app (by first | exact (below_drewN yr _).alloc yr.size _ | exact yr.alloc yr.size _) (by exact Nat.le_trans yr.size (le_alloc _ _)) (by first | exact (hown.drewN _).alloc _ | exact hown.alloc _) (Nat.le_refl _) hgr
          go_roundg (n - (m + 1))
          case measure => have := HG.out; omega
          case rel => exact ⟨m + 1, r ++ [⟨x1, x6, ⟨x2, x3, x4, x5⟩⟩], true, by omega, rfl, rfl, by go_num, hown', by have := bnd_t; simp; omega, s1, HN⟩
        | false =>
          by_cases hle : a1 ≤ x1
          · have HN : Hid ((r ++ [⟨a1, a6, ⟨a2, a3, a4, a5⟩⟩]) ++ [⟨x1, x6, ⟨x2, x3, x4, x5⟩⟩] ++ putRest true ⟨a1, a6, ⟨a2, a3, a4, a5⟩⟩ (l.drop (m + 1)) = R) := Lib.hid (by rw [← HST.out, putRest_f, putRest_t, putF_le (x := ⟨x1, x6, ⟨x2, x3, x4, x5⟩⟩) hle, List.filter_cons, if_pos (by simp [hk2])]; simp)
            clear hk
            go_wp2_with (first
              | go_quiet (fail)
              | (at_builtin
                 refine app_ch (m := [⟨a1, a6, ⟨a2, a3, a4, a5⟩⟩]) rfl (.tmp 26) (.tmp 28) rfl rfl (by first | exact (hown.drewN _).alloc _ | exact hown.alloc _) _ _ 1 1 rfl rfl (by exact rd_one _ _ _ rfl) (by simp only [List.length_singleton]; omega) (by exact Nat.le_trans yr.size (le_alloc _ _)) ?_
                 intro v' w' ho1 hgr hv'
                 have s1 := below_app (by first | exact (below_drewN yr _).alloc yr.size _ | exact yr.alloc yr.size _) (by exact Nat.le_trans yr.size (le_alloc _ _)) (by first | exact (hown.drewN _).alloc _ | exact hown.alloc _) (Nat.le_refl _) hgr
                 have hbx2 := (s1.block _ (lt_of_some HBX.out)).trans HBX.out
                 obtain ⟨q0, q1, q2, q3, q4, q5⟩ := box_ch hbx2
                 obtain ⟨ad', x', hA, -, hx2, hc0⟩ := (rs.ext s1).elIn (i := m) (by have := N.out; omega)
                 injection hA with hA
                 subst hA
                 have hx3 := HX1.out
                 rw [hx2] at hx3
                 injection hx3 with hx3
                 subst hx3
                 obtain ⟨g0, g1, g2, g3, g4, g5⟩ := ch_cells hc0.2
                 clear hx2 hc0 hgr hv' hbx2)
              | (at_builtin; refine app_ch (m := [⟨x1, x6, ⟨x2, x3, x4, x5⟩⟩]) rfl (.tmp 38) (.tmp 43) rfl rfl (by first | exact (ho1.drewN _).alloc _ | exact ho1.alloc _) _ _ 1 1 rfl rfl (by exact rd_one _ _ _ rfl) (by simp only [List.length_singleton, List.length_append]; omega) (by exact Nat.le_trans s1.size (le_alloc _ _)) ?_; intro v' w' hown' hgr hv'))
            have s2 := below_app (by first | exact (below_drewN s1 _).alloc s1.size _ | exact s1.alloc s1.size _) (by exact Nat.le_trans s1.size (le_alloc _ _)) (by first | exact (ho1.drewN _).alloc _ | exact ho1.alloc _) (Nat.le_refl _) hgr
            go_roundg (n - (m + 1))
            case measure => have := HG.out; omega
            case rel => exact ⟨m + 1, r ++ [⟨a1, a6, ⟨a2, a3, a4, a5⟩⟩] ++ [⟨x1, x6, ⟨x2, x3, x4, x5⟩⟩], true, by omega, rfl, rfl, by go_num, hown', by have := bnd_t; have := bnd_f; simp; omega, s2, HN⟩
          · have HN : Hid ((r ++ [⟨x1, x6, ⟨x2, x3, x4, x5⟩⟩]) ++ putRest false ⟨a1, a6, ⟨a2, a3, a4, a5⟩⟩ (l.drop (m + 1)) = R) := Lib.hid (by rw [← HST.out, putRest_f, putRest_f, putF_gt (x := ⟨x1, x6, ⟨x2, x3, x4, x5⟩⟩) hle]; simp)
            clear hk
            go_wp2_with (first
              | go_quiet (fail)
              | (at_builtin; refine app_ch (m := [⟨x1, x6, ⟨x2, x3, x4, x5⟩⟩]) rfl (.tmp 38) (.tmp 43) rfl rfl (by first | exact (hown.drewN _).alloc _ | exact hown.alloc _) _ _ 1 1 rfl rfl (by exact rd_one _ _ _ rfl) (by simp only [List.length_singleton, List.length_append]; omega) (by exact Nat.le_trans yr.size (le_alloc _ _)) ?_; intro v' w' hown' hgr hv'))
            have s1 := below_app (by first | exact (below_drewN yr _).alloc yr.size _ | exact yr.alloc yr.size _) (by exact Nat.le_trans yr.size (le_alloc _ _)) (by first | exact (hown.drewN _).alloc _ | exact hown.alloc _) (Nat.le_refl _) hgr
            go_roundg (n - (m + 1))
            case measure => have := HG.out; omega
            case rel => exact ⟨m + 1, r ++ [⟨x1, x6, ⟨x2, x3, x4, x5⟩⟩], false, by omega, rfl, rfl, by go_num, hown', by have := bnd_f; simp; omega, s1, HN⟩
    · have HE : Hid (r ++ putRest inb ⟨a1, a6, ⟨a2, a3, a4, a5⟩⟩ [] = R) := Lib.hid (by have h := HI.out; rwa [List.drop_eq_nil_of_le (by have := N.out; omega)] at h)
      cases inb with
      | true =>
        have hR : r = R := by have h := HE.out; simpa [putRest] using h
        subst hR
        obtain ⟨A', c', rfl, _, _⟩ := hown.form
        have HOW := Lib.hid (hown.base_le (B := w.heap.size) y.size)
        clear hown
        go_wp2_with (fail)
        go_ret
        exact ⟨A', c', rfl, HOW.out, ext_trans y yr⟩
      | false =>
        have hR : r ++ [⟨a1, a6, ⟨a2, a3, a4, a5⟩⟩] = R := by have h := HE.out; simpa [putRest, putF] using h
        have HRR := Lib.hid hR
        clear hR
        go_wp2_with ((at_builtin; refine app_ch (m := [⟨a1, a6, ⟨a2, a3, a4, a5⟩⟩]) rfl (.tmp 47) (.tmp 49) rfl rfl (by first | exact (hown.drewN _).alloc _ | exact hown.alloc _) _ _ 1 1 rfl rfl (by exact rd_one _ _ _ rfl) (by simp only [List.length_singleton, List.length_append]; omega) (by exact Nat.le_trans yr.size (le_alloc _ _)) ?_; intro v' w' hown' hgr hv'))
        have s1 := below_app (by first | exact (below_drewN yr _).alloc yr.size _ | exact yr.alloc yr.size _) (by exact Nat.le_trans yr.size (le_alloc _ _)) (by first | exact (hown.drewN _).alloc _ | exact hown.alloc _) (Nat.le_refl _) hgr
        rw [HRR.out] at hown'
        obtain ⟨A', c', rfl, _, _⟩ := hown'.form
        have HOW := Lib.hid (hown'.base_le (B := w.heap.size) y.size)
        clear hown'
        go_ret
        exact ⟨A', c', rfl, HOW.out, ext_trans y s1⟩

end Go.Proofs.Ytfnkjcodcoehcaa
