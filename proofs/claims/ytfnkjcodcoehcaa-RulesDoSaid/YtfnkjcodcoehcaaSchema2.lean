/- The walks of the document's Find, Fits and May of a schema (rubricref04). -/
import Derived.Test.YtfnkjcodcoehcaaSchema1
namespace Go.Proofs.Ytfnkjcodcoehcaa
open Go.RowKit
set_option linter.unusedVariables false
set_option linter.unusedSimpArgs false

theorem findK_drop {l : List Ky} {m : Nat} {x : Ky} {id : Int} {R : Option Ky} (hd : l.drop m = x :: l.drop (m + 1)) (h : findK (l.drop m) id = R) (hx : x.id ≠ id) : findK (l.drop (m + 1)) id = R := by
  rw [hd] at h
  rw [← h]
  simp [findK, hx]
theorem findK_hit {l : List Ky} {m : Nat} {x : Ky} {id : Int} {R : Option Ky} (hd : l.drop m = x :: l.drop (m + 1)) (h : findK (l.drop m) id = R) (hx : x.id = id) : R = some x := by
  rw [hd] at h
  rw [← h]
  simp [findK, hx]
theorem findK_end {l : List Ky} {m : Nat} {id : Int} {R : Option Ky} (hm : l.length ≤ m) (h : findK (l.drop m) id = R) : R = none := by
  rw [List.drop_eq_nil_of_le hm] at h
  rw [← h]
  rfl

set_option maxRecDepth 100000 in
set_option maxHeartbeats 800000 in
theorem findR_any (A : Option Addr) (n c : Nat) (l : List Ky) (id : Int) (w : World) (hn : n = l.length) (h : RdKy w w.heap.size A l) (hb : n ≤ 140737488355328) :
    Calls Try.prog 42 #[.slice A n c, .int .i64 id] w (FindOutK l id w) := by
  have N := Lib.hid hn
  generalize hR : findK l id = R
  have HR := Lib.hid hR
  clear hn hR
  unfold FindOutK
  rw [HR.out]
  have y0 := ext_alloc w (.cells #[.int .i64 0, .bool false, .int .u8 0, .bool false, .bool false, .int .i64 0] 53)
  have HB := Lib.hid (heap_alloc_new w (.cells #[.int .i64 0, .bool false, .int .u8 0, .bool false, .bool false, .int .i64 0] 53))
  go_enter Try.func42, Try.ntmps42
  go_wp2_with (fail)
  go_loopg [6] n (fun g iv wr => ∃ m : Nat, m ≤ n ∧ g = n - m ∧ iv = .int .i64 (m : Int) ∧ wr = w.alloc (.cells #[.int .i64 0, .bool false, .int .u8 0, .bool false, .bool false, .int .i64 0] 53) ∧ Hid (findK (l.drop m) id = R))
  case atStart => exact ⟨0, by omega, rfl, rfl, rfl, Lib.hid (by rw [List.drop_zero]; exact HR.out)⟩
  case round =>
    obtain ⟨m, hm, hg, rfl, rfl, HI⟩ := hrel
    have HG := Lib.hid hg
    clear hg HR
    by_cases hlt : m < n
    · have hl1 : m < l.length := by have := N.out; omega
      obtain ⟨ad, x, rfl, had, hd1, _, hc0⟩ := h.el hl1
      have hc1 := hc0.keep (w' := w.alloc (.cells #[.int .i64 0, .bool false, .int .u8 0, .bool false, .bool false, .int .i64 0] 53)) (fun q hq => World.cell?_alloc_lt w _ q (by rw [hq, add_block]; exact had))
      have HD := Lib.hid hd1
      obtain ⟨x1, x2, x3, x4, x5, x6⟩ := x
      obtain ⟨r0, r1, r2, r3, r4, r5⟩ := ky_cells hc1
      clear hc0 hc1 hd1
      have hw2 : IntKind.i64.wrap ((m:Int) + 1) = (m : Int) + 1 := IntWalk.i64_in _ (by omega)
      obtain ⟨b0, b1, b2, b3, b4, b5⟩ := box_ky HB.out
      by_cases hle : x1 = id
      · subst hle
        go_wp2_with (fail)
        refine bodyPost_ret (v := .tuple #[.agg #[.int .i64 x1, .bool x2, .int .u8 x3, .bool x4, .bool x5, .int .i64 x6], .bool true]) (by simp [results, Try.results42, go_sem]) rfl ?_
        have hr := findK_hit HD.out HI.out rfl
        exact ⟨x1, x2, x3, x4, x5, x6, true, rfl, by rw [hr]; rfl, by rw [hr]; rfl, by first | exact ext_alloc w _ | trace_state⟩
      · go_wp2_with (fail)
        go_roundg (n - (m + 1))
        case measure => have := HG.out; omega
        case rel => exact ⟨m + 1, by omega, rfl, by go_num, rfl, Lib.hid (findK_drop HD.out HI.out hle)⟩
    · have HE := Lib.hid (findK_end (m := m) (by have := N.out; omega) HI.out)
      go_wp2_with (fail)
      refine bodyPost_ret (v := .tuple #[.agg #[.int .i64 0, .bool false, .int .u8 0, .bool false, .bool false, .int .i64 0], .bool false]) (by simp [results, Try.results42, go_sem]) rfl ?_
      exact ⟨0, false, 0, false, false, 0, false, rfl, by rw [HE.out]; rfl, by rw [HE.out]; rfl, by first | exact ext_alloc w _ | trace_state⟩

/-- keys that may be a schema's: behind those seen -/
def okPre (seen : List Ky) : List Ky → Bool
  | [] => true
  | k :: r => mayK k && (findK seen k.id).isNone && okPre (seen ++ [k]) r
def mayKs (l : List Ky) : Bool := decide (l.length ≤ 64) && okPre [] l
/-- is an ID among the keys from j on, of the first m? -/
theorem findK_take_none {l : List Ky} {m j : Nat} {x : Ky} {id : Int} (hd : l.drop j = x :: l.drop (j + 1)) (hj : j < m) : findK ((l.take m).drop j) id = if x.id = id then some x else findK ((l.take m).drop (j + 1)) id := by
  have hl : j < l.length := by rcases Nat.lt_or_ge j l.length with h | h; · exact h
                               · rw [List.drop_eq_nil_of_le h] at hd; simp at hd
  have hx : l[j] = x := by rw [List.drop_eq_getElem_cons hl] at hd; exact (List.cons.inj hd).1
  have hl2 : j < (l.take m).length := by rw [List.length_take]; omega
  rw [List.drop_eq_getElem_cons hl2, List.getElem_take, hx]
  simp only [findK, List.find?_cons]
  by_cases h : x.id = id <;> simp [h]

set_option maxRecDepth 100000 in
set_option maxHeartbeats 3200000 in
theorem mayR4_any (A : Option Addr) (n c : Nat) (l : List Ky) (w : World) (hn : n = l.length) (h : RdKy w w.heap.size A l) (hb : n ≤ 140737488355328) :
    Calls Try.prog 7 #[.slice A n c] w fun e w' => e = .returned (.bool (mayKs l)) ∧ Below w.heap.size w w' := by
  have N := Lib.hid hn
  generalize hR : mayKs l = R
  have HR := Lib.hid hR
  clear hn hR
  by_cases h64 : (64 : Int) < (n : Int)
  · go_enter Try.func7, Try.ntmps7
    go_wp2_with (fail)
    go_ret
    refine ⟨ret_bool ?_, Below.refl _ _⟩
    rw [← HR.out]
    have := N.out
    simp [mayKs]; omega
  have HP : Hid (okPre [] l = R) := Lib.hid (by rw [← HR.out]; have := N.out; simp [mayKs]; intro h; omega)
  go_enter Try.func7, Try.ntmps7
  go_wp2_with (fail)
  go_loopg [3] n (fun g iv wr => ∃ m : Nat, m ≤ n ∧ g = n - m ∧ iv = .int .i64 (m : Int) ∧ Below w.heap.size w wr ∧ Hid (okPre (l.take m) (l.drop m) = R))
  case atStart => exact ⟨0, by omega, rfl, rfl, Below.refl _ _, Lib.hid (by rw [List.drop_zero, List.take_zero]; exact HP.out)⟩
  case round =>
    obtain ⟨m, hm, hg, rfl, y, HI⟩ := hrel
    have HG := Lib.hid hg
    clear hg HR HP
    by_cases hlt : m < n
    · have hl1 : m < l.length := by have := N.out; omega
      obtain ⟨ad, x, rfl, had, hd1, hx1, hc0⟩ := (h.below y (Nat.le_refl _)).el hl1
      have hh := h.below y (Nat.le_refl _)
      obtain ⟨x1, x2, x3, x4, x5, x6⟩ := x
      obtain ⟨r0, r1, r2, r3, r4, r5⟩ := ky_cells hc0
      have HI2 : Hid ((mayK ⟨x1, x2, x3, x4, x5, x6⟩ && (findK (l.take m) x1).isNone && okPre (l.take (m + 1)) (l.drop (m + 1))) = R) := Lib.hid (by
        rw [← HI.out, hd1]
        simp only [okPre]
        rw [List.take_add_one, hx1]; rfl)
      have HD := Lib.hid hd1
      have yb := ext_alloc wr (.cells #[.int .i64 x1, .bool x2, .int .u8 x3, .bool x4, .bool x5, .int .i64 x6] 53)
      have HBX := Lib.hid (heap_alloc_new wr (.cells #[.int .i64 x1, .bool x2, .int .u8 x3, .bool x4, .bool x5, .int .i64 x6] 53))
      clear hc0 hd1 hx1 HI
      have hw2 : IntKind.i64.wrap ((m:Int) + 1) = (m : Int) + 1 := IntWalk.i64_in _ (by omega)
      by_cases h1 : x1 < 1
      · skip
        go_wp2_with (fail)
        go_ret
        exact ⟨ret_bool (by rw [← HI2.out, show mayK ⟨x1, x2, x3, x4, x5, x6⟩ = false by unfold mayK; simp; omega]; simp), ext_trans y yb⟩
      by_cases h2 : 1000 < x1
      · skip
        go_wp2_with (fail)
        go_ret
        exact ⟨ret_bool (by rw [← HI2.out, show mayK ⟨x1, x2, x3, x4, x5, x6⟩ = false by unfold mayK; simp; omega]; simp), ext_trans y yb⟩
      by_cases h3 : x3 < 1
      · skip
        go_wp2_with (fail)
        go_ret
        exact ⟨ret_bool (by rw [← HI2.out, show mayK ⟨x1, x2, x3, x4, x5, x6⟩ = false by unfold mayK; simp; omega]; simp), ext_trans y yb⟩
      by_cases h4 : 4 < x3
      · skip
        go_wp2_with (fail)
        go_ret
        exact ⟨ret_bool (by rw [← HI2.out, show mayK ⟨x1, x2, x3, x4, x5, x6⟩ = false by unfold mayK; simp; omega]; simp), ext_trans y yb⟩
      by_cases h5 : x6 < 0
      · skip
        go_wp2_with (fail)
        go_ret
        exact ⟨ret_bool (by rw [← HI2.out, show mayK ⟨x1, x2, x3, x4, x5, x6⟩ = false by unfold mayK; simp; intros; cases x2 <;> simp <;> omega]; simp), ext_trans y yb⟩
      by_cases h6 : 8 < x6
      · skip
        go_wp2_with (fail)
        go_ret
        exact ⟨ret_bool (by rw [← HI2.out, show mayK ⟨x1, x2, x3, x4, x5, x6⟩ = false by unfold mayK; simp; intros; cases x2 <;> simp <;> omega]; simp), ext_trans y yb⟩
      have hgo : (x2 = true ∧ x5 = true) ∨ (x2 = false ∧ ¬ x6 = 0) ∨ mayK ⟨x1, x2, x3, x4, x5, x6⟩ = true := by
        unfold mayK
        cases x2 <;> cases x5 <;> simp <;> omega
      rcases hgo with ⟨rfl, rfl⟩ | ⟨rfl, h7⟩ | hgo
      · go_wp2_with (fail)
        go_ret
        exact ⟨ret_bool (by rw [← HI2.out, show mayK ⟨x1, true, x3, x4, true, x6⟩ = false by unfold mayK; simp]; simp), ext_trans y yb⟩
      · go_wp2_with (fail)
        go_ret
        exact ⟨ret_bool (by rw [← HI2.out, show mayK ⟨x1, false, x3, x4, x5, x6⟩ = false by unfold mayK; simp [h7]]; simp), ext_trans y yb⟩
      have HGO := Lib.hid hgo
      clear hgo
      cases x2 with
      | true =>
        have hx5 : x5 = false := by
          have h := HGO.out
          cases x5 with
          | false => rfl
          | true => simp [mayK] at h
        subst hx5
        go_wp2_with (fail)
        obtain ⟨R2, hR2⟩ : ∃ X, findK (l.take m) x1 = X := ⟨_, rfl⟩
        have HR2 := Lib.hid hR2
        clear hR2
        go_loopg [5] m (fun g2 jv wi => ∃ j : Nat, j ≤ m ∧ g2 = m - j ∧ jv = .int .i64 (j : Int) ∧ (∃ d, wi = (wr.alloc (.cells #[.int .i64 x1, .bool true, .int .u8 x3, .bool x4, .bool false, .int .i64 x6] 53)).drewN d) ∧ Hid (findK ((l.take m).drop j) x1 = R2))
        case atStart => exact ⟨0, by omega, rfl, rfl, ⟨0, rfl⟩, Lib.hid (by rw [List.drop_zero]; exact HR2.out)⟩
        case round =>
          obtain ⟨j, hj, hg2, rfl, ⟨d, rfl⟩, HJ⟩ := hrel
          have HG2 := Lib.hid hg2
          clear hg2
          by_cases hjm : j < m
          · have hl2 : j < l.length := by omega
            obtain ⟨ad', z, e, had2, hd2, _, hz0⟩ := hh.el hl2
            injection e with e; subst e
            have hz1 := hz0.keep (w' := wr.alloc (.cells #[.int .i64 x1, .bool true, .int .u8 x3, .bool x4, .bool false, .int .i64 x6] 53)) (fun q hq => World.cell?_alloc_lt wr _ q (by rw [hq, add_block]; exact Nat.lt_of_lt_of_le had2 y.size))
            obtain ⟨z1, z2, z3, z4, z5, z6⟩ := z
            obtain ⟨s0, -⟩ := ky_cells hz1
            have hbx : (wr.alloc (.cells #[.int .i64 x1, .bool true, .int .u8 x3, .bool x4, .bool false, .int .i64 x6] 53)).heap[wr.heap.size]? = some (.cells #[.int .i64 x1, .bool true, .int .u8 x3, .bool x4, .bool false, .int .i64 x6] 53 (0, 0)) := HBX.out
            obtain ⟨b0, -⟩ := box_ky hbx
            have HT := Lib.hid (findK_take_none (m := m) (id := x1) hd2 hjm)
            clear hz0 hz1 hd2 hbx
            have hjn : j < n := by omega
            have hw3 : IntKind.i64.wrap ((j:Int) + 1) = (j : Int) + 1 := IntWalk.i64_in _ (by omega)
            by_cases hzx : z1 = x1
            · subst hzx
              go_wp2_with (go_quiet (fail))
              go_ret
              have h2 := HJ.out
              rw [HT.out, if_pos (by simp)] at h2
              have h3 := HR2.out
              exact ⟨ret_bool (by rw [← HI2.out, h3, ← h2]; simp), ext_trans y (ext_trans yb (ext_drew _ _))⟩
            · go_wp2_with (go_quiet (fail))
              go_roundg (m - (j + 1))
              case measure => have := HG2.out; omega
              case rel => exact ⟨j + 1, by omega, rfl, by go_num, ⟨_, rfl⟩, Lib.hid (by rw [← HJ.out, HT.out, if_neg hzx])⟩
          · have hR2 : R2 = none := by rw [← HJ.out, List.drop_eq_nil_of_le (by rw [List.length_take]; omega)]; rfl
            have HF := Lib.hid (HR2.out.trans hR2)
            clear hR2
            go_wp2_with (fail)
            go_roundg (n - (m + 1))
            case measure => have := HG.out; omega
            case rel => exact ⟨m + 1, by omega, rfl, by go_num, ext_trans y (ext_trans yb (ext_drew _ _)), Lib.hid (by rw [← HI2.out, HGO.out, HF.out]; simp)⟩
      | false =>
        have hx6 : x6 = 0 := by
          have h := HGO.out
          simp [mayK] at h
          exact h.2
        subst hx6
        go_wp2_with (fail)
        obtain ⟨R2, hR2⟩ : ∃ X, findK (l.take m) x1 = X := ⟨_, rfl⟩
        have HR2 := Lib.hid hR2
        clear hR2
        go_loopg [5] m (fun g2 jv wi => ∃ j : Nat, j ≤ m ∧ g2 = m - j ∧ jv = .int .i64 (j : Int) ∧ (∃ d, wi = (wr.alloc (.cells #[.int .i64 x1, .bool false, .int .u8 x3, .bool x4, .bool x5, .int .i64 0] 53)).drewN d) ∧ Hid (findK ((l.take m).drop j) x1 = R2))
        case atStart => exact ⟨0, by omega, rfl, rfl, ⟨0, rfl⟩, Lib.hid (by rw [List.drop_zero]; exact HR2.out)⟩
        case round =>
          obtain ⟨j, hj, hg2, rfl, ⟨d, rfl⟩, HJ⟩ := hrel
          have HG2 := Lib.hid hg2
          clear hg2
          by_cases hjm : j < m
          · have hl2 : j < l.length := by omega
            obtain ⟨ad', z, e, had2, hd2, _, hz0⟩ := hh.el hl2
            injection e with e; subst e
            have hz1 := hz0.keep (w' := wr.alloc (.cells #[.int .i64 x1, .bool false, .int .u8 x3, .bool x4, .bool x5, .int .i64 0] 53)) (fun q hq => World.cell?_alloc_lt wr _ q (by rw [hq, add_block]; exact Nat.lt_of_lt_of_le had2 y.size))
            obtain ⟨z1, z2, z3, z4, z5, z6⟩ := z
            obtain ⟨s0, -⟩ := ky_cells hz1
            have hbx : (wr.alloc (.cells #[.int .i64 x1, .bool false, .int .u8 x3, .bool x4, .bool x5, .int .i64 0] 53)).heap[wr.heap.size]? = some (.cells #[.int .i64 x1, .bool false, .int .u8 x3, .bool x4, .bool x5, .int .i64 0] 53 (0, 0)) := HBX.out
            obtain ⟨b0, -⟩ := box_ky hbx
            have HT := Lib.hid (findK_take_none (m := m) (id := x1) hd2 hjm)
            clear hz0 hz1 hd2 hbx
            have hjn : j < n := by omega
            have hw3 : IntKind.i64.wrap ((j:Int) + 1) = (j : Int) + 1 := IntWalk.i64_in _ (by omega)
            by_cases hzx : z1 = x1
            · subst hzx
              go_wp2_with (go_quiet (fail))
              go_ret
              have h2 := HJ.out
              rw [HT.out, if_pos (by simp)] at h2
              have h3 := HR2.out
              exact ⟨ret_bool (by rw [← HI2.out, h3, ← h2]; simp), ext_trans y (ext_trans yb (ext_drew _ _))⟩
            · go_wp2_with (go_quiet (fail))
              go_roundg (m - (j + 1))
              case measure => have := HG2.out; omega
              case rel => exact ⟨j + 1, by omega, rfl, by go_num, ⟨_, rfl⟩, Lib.hid (by rw [← HJ.out, HT.out, if_neg hzx])⟩
          · have hR2 : R2 = none := by rw [← HJ.out, List.drop_eq_nil_of_le (by rw [List.length_take]; omega)]; rfl
            have HF := Lib.hid (HR2.out.trans hR2)
            clear hR2
            go_wp2_with (fail)
            go_roundg (n - (m + 1))
            case measure => have := HG.out; omega
            case rel => exact ⟨m + 1, by omega, rfl, by go_num, ext_trans y (ext_trans yb (ext_drew _ _)), Lib.hid (by rw [← HI2.out, HGO.out, HF.out]; simp)⟩
    · go_wp2_with (fail)
      go_ret
      refine ⟨ret_bool ?_, y⟩
      rw [← HI.out, List.drop_eq_nil_of_le (by have := N.out; omega)]; rfl
end Go.Proofs.Ytfnkjcodcoehcaa
