/- Merged texts: Schema2, PatchFn, Find. -/
import Derived.Test.YthhjjaoppacnmaaDoorA7
import Derived.Test.YthhjjaoppacnmaaDoorA1
import Derived.Test.YthhjjaoppacnmaaDoorA2
namespace Go.Proofs.YthhjjaoppacnmaaDoor
open Go.RowKit
set_option linter.unusedVariables false
set_option linter.unusedSimpArgs false

theorem findK_drop {l : List Ky} {m : Nat} {x : Ky} {id : Int} {R : Option Ky} (hd : l.drop m = x :: l.drop (m + 1)) (h : findK (l.drop m) id = R) (hx : x.id ≠ id) : findK (l.drop (m + 1)) id = R := by
  rw [hd] at h
  rw [← h]
  simp [findK, hx]
theorem findK_hit {l : List Ky} {m : Nat} {x : Ky} {id : Int} {R : Option Ky} (hd : l.drop m = x :: l.drop (m + 1)) (h : findK (l.drop m) id = R) (hx : x.id = id) : R = some x := by
  rw [hd] at h
  rw [← h]
  simp [findK, hx]
theorem findK_end {l : List Ky} {m : Nat} {id : Int} {R : Option Ky} (hm : l.length ≤ m) (h : findK (l.drop m) id = R) : R = none := by
  rw [List.drop_eq_nil_of_le hm] at h
  rw [← h]
  rfl

set_option maxRecDepth 100000 in
set_option maxHeartbeats 800000 in
theorem findR_any (A : Option Addr) (n c : Nat) (l : List Ky) (id : Int) (w : World) (hn : n = l.length) (h : RdKy w w.heap.size A l) (hb : n ≤ 140737488355328) :
    Calls Tryd.prog 47 #[.slice A n c, .int .i64 id] w (FindOutK l id w) := by
  have N := Lib.hid hn
  generalize hR : findK l id = R
  have HR := Lib.hid hR
  clear hn hR
  unfold FindOutK
  rw [HR.out]
  have y0 := ext_alloc w (.cells #[.int .i64 0, .bool false, .int .u8 0, .bool false, .bool false, .int .i64 0] 62)
  have HB := Lib.hid (heap_alloc_new w (.cells #[.int .i64 0, .bool false, .int .u8 0, .bool false, .bool false, .int .i64 0] 62))
  go_enter Tryd.func47, Tryd.ntmps47
  go_wp2_with (fail)
  go_loopg [6] n (fun g iv wr => ∃ m : Nat, m ≤ n ∧ g = n - m ∧ iv = .int .i64 (m : Int) ∧ wr = w.alloc (.cells #[.int .i64 0, .bool false, .int .u8 0, .bool false, .bool false, .int .i64 0] 62) ∧ Hid (findK (l.drop m) id = R))
  case atStart => exact ⟨0, by omega, rfl, rfl, rfl, Lib.hid (by rw [List.drop_zero]; exact HR.out)⟩
  case round =>
    obtain ⟨m, hm, hg, rfl, rfl, HI⟩ := hrel
    have HG := Lib.hid hg
    clear hg HR
    by_cases hlt : m < n
    · have hl1 : m < l.length := by have := N.out; omega
      obtain ⟨ad, x, rfl, had, hd1, _, hc0⟩ := h.el hl1
      have hc1 := hc0.keep (w' := w.alloc (.cells #[.int .i64 0, .bool false, .int .u8 0, .bool false, .bool false, .int .i64 0] 62)) (fun q hq => World.cell?_alloc_lt w _ q (by rw [hq, add_block]; exact had))
      have HD := Lib.hid hd1
      obtain ⟨x1, x2, x3, x4, x5, x6⟩ := x
      obtain ⟨r0, r1, r2, r3, r4, r5⟩ := ky_cells hc1
      clear hc0 hc1 hd1
      have hw2 : IntKind.i64.wrap ((m:Int) + 1) = (m : Int) + 1 := IntWalk.i64_in _ (by omega)
      obtain ⟨b0, b1, b2, b3, b4, b5⟩ := box_ky HB.out
      by_cases hle : x1 = id
      · subst hle
        go_wp2_with (fail)
        refine bodyPost_ret (v := .tuple #[.agg #[.int .i64 x1, .bool x2, .int .u8 x3, .bool x4, .bool x5, .int .i64 x6], .bool true]) (by simp [results, Tryd.results47, go_sem]) rfl ?_
        have hr := findK_hit HD.out HI.out rfl
        exact ⟨x1, x2, x3, x4, x5, x6, true, rfl, by rw [hr]; rfl, by rw [hr]; rfl, by first | exact ext_alloc w _ | trace_state⟩
      · go_wp2_with (fail)
        go_roundg (n - (m + 1))
        case measure => have := HG.out; omega
        case rel => exact ⟨m + 1, by omega, rfl, by go_num, rfl, Lib.hid (findK_drop HD.out HI.out hle)⟩
    · have HE := Lib.hid (findK_end (m := m) (by have := N.out; omega) HI.out)
      go_wp2_with (fail)
      refine bodyPost_ret (v := .tuple #[.agg #[.int .i64 0, .bool false, .int .u8 0, .bool false, .bool false, .int .i64 0], .bool false]) (by simp [results, Tryd.results47, go_sem]) rfl ?_
      exact ⟨0, false, 0, false, false, 0, false, rfl, by rw [HE.out]; rfl, by rw [HE.out]; rfl, by first | exact ext_alloc w _ | trace_state⟩

set_option maxHeartbeats 1600000 in
theorem fitsR_any (A : Option Addr) (nn cc : Nat) (l : List Ky) (id k n f : Int) (t : ByteArray) (w : World) (hn : nn = l.length) (h : RdKy w w.heap.size A l) (hb : nn ≤ 140737488355328) (h0 : 0 ≤ f) (h1 : f < 18446744073709551616) (hsz : t.size ≤ 100000000)
    (hT : Lib.Utf8Tabs 1 2 w) :
    Calls Tryd.prog 38 #[.slice A nn cc, .int .i64 id, .agg #[.int .u8 k, .int .i64 n, .int .u64 f, .string t]] w fun e w' => e = .returned (.bool (fitsK l id ⟨k, n, f, t⟩)) ∧ Below w.heap.size w w' := by
  obtain ⟨R, hR⟩ : ∃ X, fitsK l id ⟨k, n, f, t⟩ = X := ⟨_, rfl⟩
  obtain ⟨m, hm⟩ : ∃ X, mayV ⟨k, n, f, t⟩ = X := ⟨_, rfl⟩
  rw [hR]
  unfold fitsK at hR
  rw [hm] at hR
  have HR := Lib.hid hR
  have HMV := Lib.hid hm
  have HN := Lib.hid hn
  have y0 := ext_alloc w (.cells #[.int .u8 k, .int .i64 n, .int .u64 f, .string t] 26)
  have hv0 := heap_alloc_new w (.cells #[.int .u8 k, .int .i64 n, .int .u64 f, .string t] 26)
  have hs0 := h.ext y0
  have hT0 := Utf8Tabs_below hT y0
  clear hR hm h hn
  go_enter Tryd.func38, Tryd.ntmps38
  go_wp2_with (go_at_call 47; refine Hid.out ?_)
  refine Lib.hid ?_
  have H0 := Lib.hid hv0
  clear hv0
  generalize hw0 : w.alloc _ = w0 at *
  clear hw0
  refine (findR_any A nn cc l id w0 HN.out hs0 hb).mono ?_
  rintro e w1 ⟨i, c, kd, d, g, q, b, rfl, hk, hb, y1⟩
  have hv1 := (y1.block w.heap.size (lt_of_some H0.out)).trans H0.out
  have y1' := ext_trans y0 y1
  have y2 := ext_alloc w1 (.cells #[.int .i64 i, .bool c, .int .u8 kd, .bool d, .bool g, .int .i64 q] 62)
  have hk2 := heap_alloc_new w1 (.cells #[.int .i64 i, .bool c, .int .u8 kd, .bool d, .bool g, .int .i64 q] 62)
  have hv2 := (y2.block w.heap.size (lt_of_some hv1)).trans hv1
  have hT2 := Utf8Tabs_below hT0 (ext_trans y1 y2)
  have yy := ext_trans y1' y2
  obtain ⟨a0, a1, a2, a3⟩ := box_v hv2
  have HV2 := Lib.hid hv2
  have HK2 := Lib.hid hk2
  have HB := Lib.hid hb
  have HK := Lib.hid hk
  clear hv1 hv2 hk2 H0 hb hk hT hT0 hs0
  cases b with
  | false =>
    go_wp2_with (fail)
    go_ret
    refine ⟨ret_bool ?_, yy⟩
    have h := HR.out
    have hb := HB.out
    cases hq : findK l id with
    | none => rw [hq] at h; exact h
    | some k => rw [hq] at hb; simp at hb
  | true =>
    obtain ⟨K, hK⟩ : ∃ K, findK l id = some K := Option.isSome_iff_exists.1 HB.out
    have hR := HR.out
    have hk := HK.out
    rw [hK] at hR hk
    simp only [Option.getD_some] at hk
    subst hk
    simp only at hR
    have HR := Lib.hid hR
    clear hR
    go_wp2_with (go_at_call 37; refine Hid.out ?_)
    refine Lib.hid ?_
    refine (refMayV_any k n f t _ h0 h1 hsz hT2).mono ?_
    rintro e w3 ⟨rfl, y3⟩
    rw [HMV.out]
    have yy3 := below_at yy y3 rfl rfl rfl rfl
    obtain ⟨hv3, hk3⟩ := kept2 HV2.out HK2.out y3 rfl
    obtain ⟨a0, a1, a2, a3⟩ := box_v hv3
    obtain ⟨k0, k1, k2, k3, k4, k5⟩ := box_ky hk3
    clear hv3 hk3 y3
    cases m with
    | false =>
      go_wp2_with (fail)
      go_ret
      refine ⟨ret_bool ?_, yy3⟩
      rw [← HR.out]; simp
    | true =>
      go_wp2_with (fail)
      go_ret
      refine ⟨ret_bool ?_, yy3⟩
      rw [← HR.out, Bool.and_true]
      by_cases hq : kd = k
      · subst hq; simp
      · have hq' : ¬ k = kd := fun e => hq e.symm
        simp [hq, hq']

/-- keys that may be a schema's: behind those seen -/
def okPre (seen : List Ky) : List Ky → Bool
  | [] => true
  | k :: r => mayK k && (findK seen k.id).isNone && okPre (seen ++ [k]) r
def mayKs (l : List Ky) : Bool := decide (l.length ≤ 64) && okPre [] l
/-- is an ID among the keys from j on, of the first m? -/
theorem findK_take_none {l : List Ky} {m j : Nat} {x : Ky} {id : Int} (hd : l.drop j = x :: l.drop (j + 1)) (hj : j < m) : findK ((l.take m).drop j) id = if x.id = id then some x else findK ((l.take m).drop (j + 1)) id := by
  have hl : j < l.length := by rcases Nat.lt_or_ge j l.length with h | h; · exact h
                               · rw [List.drop_eq_nil_of_le h] at hd; simp at hd
  have hx : l[j] = x := by rw [List.drop_eq_getElem_cons hl] at hd; exact (List.cons.inj hd).1
  have hl2 : j < (l.take m).length := by rw [List.length_take]; omega
  rw [List.drop_eq_getElem_cons hl2, List.getElem_take, hx]
  simp only [findK, List.find?_cons]
  by_cases h : x.id = id <;> simp [h]

set_option maxRecDepth 100000 in
set_option maxHeartbeats 3200000 in
theorem mayR4_any (A : Option Addr) (n c : Nat) (l : List Ky) (w : World) (hn : n = l.length) (h : RdKy w w.heap.size A l) (hb : n ≤ 140737488355328) :
    Calls Tryd.prog 8 #[.slice A n c] w fun e w' => e = .returned (.bool (mayKs l)) ∧ Below w.heap.size w w' := by
  have N := Lib.hid hn
  generalize hR : mayKs l = R
  have HR := Lib.hid hR
  clear hn hR
  by_cases h64 : (64 : Int) < (n : Int)
  · go_enter Tryd.func8, Tryd.ntmps8
    go_wp2_with (fail)
    go_ret
    refine ⟨ret_bool ?_, Below.refl _ _⟩
    rw [← HR.out]
    have := N.out
    simp [mayKs]; omega
  have HP : Hid (okPre [] l = R) := Lib.hid (by rw [← HR.out]; have := N.out; simp [mayKs]; intro h; omega)
  go_enter Tryd.func8, Tryd.ntmps8
  go_wp2_with (fail)
  go_loopg [3] n (fun g iv wr => ∃ m : Nat, m ≤ n ∧ g = n - m ∧ iv = .int .i64 (m : Int) ∧ Below w.heap.size w wr ∧ Hid (okPre (l.take m) (l.drop m) = R))
  case atStart => exact ⟨0, by omega, rfl, rfl, Below.refl _ _, Lib.hid (by rw [List.drop_zero, List.take_zero]; exact HP.out)⟩
  case round =>
    obtain ⟨m, hm, hg, rfl, y, HI⟩ := hrel
    have HG := Lib.hid hg
    clear hg HR HP
    by_cases hlt : m < n
    · have hl1 : m < l.length := by have := N.out; omega
      obtain ⟨ad, x, rfl, had, hd1, hx1, hc0⟩ := (h.below y (Nat.le_refl _)).el hl1
      have hh := h.below y (Nat.le_refl _)
      obtain ⟨x1, x2, x3, x4, x5, x6⟩ := x
      obtain ⟨r0, r1, r2, r3, r4, r5⟩ := ky_cells hc0
      have HI2 : Hid ((mayK ⟨x1, x2, x3, x4, x5, x6⟩ && (findK (l.take m) x1).isNone && okPre (l.take (m + 1)) (l.drop (m + 1))) = R) := Lib.hid (by
        rw [← HI.out, hd1]
        simp only [okPre]
        rw [List.take_add_one, hx1]; rfl)
      have HD := Lib.hid hd1
      have yb := ext_alloc wr (.cells #[.int .i64 x1, .bool x2, .int .u8 x3, .bool x4, .bool x5, .int .i64 x6] 62)
      have HBX := Lib.hid (heap_alloc_new wr (.cells #[.int .i64 x1, .bool x2, .int .u8 x3, .bool x4, .bool x5, .int .i64 x6] 62))
      clear hc0 hd1 hx1 HI
      have hw2 : IntKind.i64.wrap ((m:Int) + 1) = (m : Int) + 1 := IntWalk.i64_in _ (by omega)
      by_cases h1 : x1 < 1
      · skip
        go_wp2_with (fail)
        go_ret
        exact ⟨ret_bool (by rw [← HI2.out, show mayK ⟨x1, x2, x3, x4, x5, x6⟩ = false by unfold mayK; simp; omega]; simp), ext_trans y yb⟩
      by_cases h2 : 1000 < x1
      · skip
        go_wp2_with (fail)
        go_ret
        exact ⟨ret_bool (by rw [← HI2.out, show mayK ⟨x1, x2, x3, x4, x5, x6⟩ = false by unfold mayK; simp; omega]; simp), ext_trans y yb⟩
      by_cases h3 : x3 < 1
      · skip
        go_wp2_with (fail)
        go_ret
        exact ⟨ret_bool (by rw [← HI2.out, show mayK ⟨x1, x2, x3, x4, x5, x6⟩ = false by unfold mayK; simp; omega]; simp), ext_trans y yb⟩
      by_cases h4 : 4 < x3
      · skip
        go_wp2_with (fail)
        go_ret
        exact ⟨ret_bool (by rw [← HI2.out, show mayK ⟨x1, x2, x3, x4, x5, x6⟩ = false by unfold mayK; simp; omega]; simp), ext_trans y yb⟩
      by_cases h5 : x6 < 0
      · skip
        go_wp2_with (fail)
        go_ret
        exact ⟨ret_bool (by rw [← HI2.out, show mayK ⟨x1, x2, x3, x4, x5, x6⟩ = false by unfold mayK; simp; intros; cases x2 <;> simp <;> omega]; simp), ext_trans y yb⟩
      by_cases h6 : 8 < x6
      · skip
        go_wp2_with (fail)
        go_ret
        exact ⟨ret_bool (by rw [← HI2.out, show mayK ⟨x1, x2, x3, x4, x5, x6⟩ = false by unfold mayK; simp; intros; cases x2 <;> simp <;> omega]; simp), ext_trans y yb⟩
      have hgo : (x2 = true ∧ x5 = true) ∨ (x2 = false ∧ ¬ x6 = 0) ∨ mayK ⟨x1, x2, x3, x4, x5, x6⟩ = true := by
        unfold mayK
        cases x2 <;> cases x5 <;> simp <;> omega
      rcases hgo with ⟨rfl, rfl⟩ | ⟨rfl, h7⟩ | hgo
      · go_wp2_with (fail)
        go_ret
        exact ⟨ret_bool (by rw [← HI2.out, show mayK ⟨x1, true, x3, x4, true, x6⟩ = false by unfold mayK; simp]; simp), ext_trans y yb⟩
      · go_wp2_with (fail)
        go_ret
        exact ⟨ret_bool (by rw [← HI2.out, show mayK ⟨x1, false, x3, x4, x5, x6⟩ = false by unfold mayK; simp [h7]]; simp), ext_trans y yb⟩
      have HGO := Lib.hid hgo
      clear hgo
      cases x2 with
      | true =>
        have hx5 : x5 = false := by
          have h := HGO.out
          cases x5 with
          | false => rfl
          | true => simp [mayK] at h
        subst hx5
        go_wp2_with (fail)
        obtain ⟨R2, hR2⟩ : ∃ X, findK (l.take m) x1 = X := ⟨_, rfl⟩
        have HR2 := Lib.hid hR2
        clear hR2
        go_loopg [5] m (fun g2 jv wi => ∃ j : Nat, j ≤ m ∧ g2 = m - j ∧ jv = .int .i64 (j : Int) ∧ (∃ d, wi = (wr.alloc (.cells #[.int .i64 x1, .bool true, .int .u8 x3, .bool x4, .bool false, .int .i64 x6] 62)).drewN d) ∧ Hid (findK ((l.take m).drop j) x1 = R2))
        case atStart => exact ⟨0, by omega, rfl, rfl, ⟨0, rfl⟩, Lib.hid (by rw [List.drop_zero]; exact HR2.out)⟩
        case round =>
          obtain ⟨j, hj, hg2, rfl, ⟨d, rfl⟩, HJ⟩ := hrel
          have HG2 := Lib.hid hg2
          clear hg2
          by_cases hjm : j < m
          · have hl2 : j < l.length := by omega
            obtain ⟨ad', z, e, had2, hd2, _, hz0⟩ := hh.el hl2
            injection e with e; subst e
            have hz1 := hz0.keep (w' := wr.alloc (.cells #[.int .i64 x1, .bool true, .int .u8 x3, .bool x4, .bool false, .int .i64 x6] 62)) (fun q hq => World.cell?_alloc_lt wr _ q (by rw [hq, add_block]; exact Nat.lt_of_lt_of_le had2 y.size))
            obtain ⟨z1, z2, z3, z4, z5, z6⟩ := z
            obtain ⟨s0, -⟩ := ky_cells hz1
            have hbx : (wr.alloc (.cells #[.int .i64 x1, .bool true, .int .u8 x3, .bool x4, .bool false, .int .i64 x6] 62)).heap[wr.heap.size]? = some (.cells #[.int .i64 x1, .bool true, .int .u8 x3, .bool x4, .bool false, .int .i64 x6] 62 (0, 0)) := HBX.out
            obtain ⟨b0, -⟩ := box_ky hbx
            have HT := Lib.hid (findK_take_none (m := m) (id := x1) hd2 hjm)
            clear hz0 hz1 hd2 hbx
            have hjn : j < n := by omega
            have hw3 : IntKind.i64.wrap ((j:Int) + 1) = (j : Int) + 1 := IntWalk.i64_in _ (by omega)
            by_cases hzx : z1 = x1
            · subst hzx
              go_wp2_with (go_quiet (fail))
              go_ret
              have h2 := HJ.out
              rw [HT.out, if_pos (by simp)] at h2
              have h3 := HR2.out
              exact ⟨ret_bool (by rw [← HI2.out, h3, ← h2]; simp), ext_trans y (ext_trans yb (ext_drew _ _))⟩
            · go_wp2_with (go_quiet (fail))
              go_roundg (m - (j + 1))
              case measure => have := HG2.out; omega
              case rel => exact ⟨j + 1, by omega, rfl, by go_num, ⟨_, rfl⟩, Lib.hid (by rw [← HJ.out, HT.out, if_neg hzx])⟩
          · have hR2 : R2 = none := by rw [← HJ.out, List.drop_eq_nil_of_le (by rw [List.length_take]; omega)]; rfl
            have HF := Lib.hid (HR2.out.trans hR2)
            clear hR2
            go_wp2_with (fail)
            go_roundg (n - (m + 1))
            case measure => have := HG.out; omega
            case rel => exact ⟨m + 1, by omega, rfl, by go_num, ext_trans y (ext_trans yb (ext_drew _ _)), Lib.hid (by rw [← HI2.out, HGO.out, HF.out]; simp)⟩
      | false =>
        have hx6 : x6 = 0 := by
          have h := HGO.out
          simp [mayK] at h
          exact h.2
        subst hx6
        go_wp2_with (fail)
        obtain ⟨R2, hR2⟩ : ∃ X, findK (l.take m) x1 = X := ⟨_, rfl⟩
        have HR2 := Lib.hid hR2
        clear hR2
        go_loopg [5] m (fun g2 jv wi => ∃ j : Nat, j ≤ m ∧ g2 = m - j ∧ jv = .int .i64 (j : Int) ∧ (∃ d, wi = (wr.alloc (.cells #[.int .i64 x1, .bool false, .int .u8 x3, .bool x4, .bool x5, .int .i64 0] 62)).drewN d) ∧ Hid (findK ((l.take m).drop j) x1 = R2))
        case atStart => exact ⟨0, by omega, rfl, rfl, ⟨0, rfl⟩, Lib.hid (by rw [List.drop_zero]; exact HR2.out)⟩
        case round =>
          obtain ⟨j, hj, hg2, rfl, ⟨d, rfl⟩, HJ⟩ := hrel
          have HG2 := Lib.hid hg2
          clear hg2
          by_cases hjm : j < m
          · have hl2 : j < l.length := by omega
            obtain ⟨ad', z, e, had2, hd2, _, hz0⟩ := hh.el hl2
            injection e with e; subst e
            have hz1 := hz0.keep (w' := wr.alloc (.cells #[.int .i64 x1, .bool false, .int .u8 x3, .bool x4, .bool x5, .int .i64 0] 62)) (fun q hq => World.cell?_alloc_lt wr _ q (by rw [hq, add_block]; exact Nat.lt_of_lt_of_le had2 y.size))
            obtain ⟨z1, z2, z3, z4, z5, z6⟩ := z
            obtain ⟨s0, -⟩ := ky_cells hz1
            have hbx : (wr.alloc (.cells #[.int .i64 x1, .bool false, .int .u8 x3, .bool x4, .bool x5, .int .i64 0] 62)).heap[wr.heap.size]? = some (.cells #[.int .i64 x1, .bool false, .int .u8 x3, .bool x4, .bool x5, .int .i64 0] 62 (0, 0)) := HBX.out
            obtain ⟨b0, -⟩ := box_ky hbx
            have HT := Lib.hid (findK_take_none (m := m) (id := x1) hd2 hjm)
            clear hz0 hz1 hd2 hbx
            have hjn : j < n := by omega
            have hw3 : IntKind.i64.wrap ((j:Int) + 1) = (j : Int) + 1 := IntWalk.i64_in _ (by omega)
            by_cases hzx : z1 = x1
            · subst hzx
              go_wp2_with (go_quiet (fail))
              go_ret
              have h2 := HJ.out
              rw [HT.out, if_pos (by simp)] at h2
              have h3 := HR2.out
              exact ⟨ret_bool (by rw [← HI2.out, h3, ← h2]; simp), ext_trans y (ext_trans yb (ext_drew _ _))⟩
            · go_wp2_with (go_quiet (fail))
              go_roundg (m - (j + 1))
              case measure => have := HG2.out; omega
              case rel => exact ⟨j + 1, by omega, rfl, by go_num, ⟨_, rfl⟩, Lib.hid (by rw [← HJ.out, HT.out, if_neg hzx])⟩
          · have hR2 : R2 = none := by rw [← HJ.out, List.drop_eq_nil_of_le (by rw [List.length_take]; omega)]; rfl
            have HF := Lib.hid (HR2.out.trans hR2)
            clear hR2
            go_wp2_with (fail)
            go_roundg (n - (m + 1))
            case measure => have := HG.out; omega
            case rel => exact ⟨m + 1, by omega, rfl, by go_num, ext_trans y (ext_trans yb (ext_drew _ _)), Lib.hid (by rw [← HI2.out, HGO.out, HF.out]; simp)⟩
    · go_wp2_with (fail)
      go_ret
      refine ⟨ret_bool ?_, y⟩
      rw [← HI.out, List.drop_eq_nil_of_le (by have := N.out; omega)]; rfl
end Go.Proofs.YthhjjaoppacnmaaDoor
namespace Go.Proofs.YthhjjaoppacnmaaDoor

def put1 (c : Ch) : List At := if c.gone then [] else [⟨c.key, c.v⟩]
def drop1 (k : Int) : List At → List At
  | [] => []
  | a :: s => if a.key = k then s else a :: s
def applyP : List Ch → List At → List At
  | [], s => s
  | c :: p, s => s.takeWhile (fun a => decide (a.key < c.key)) ++ (put1 c ++ applyP p (drop1 c.key (s.dropWhile (fun a => decide (a.key < c.key)))))
def getA (l : List At) (key : Int) : Option V := (l.find? (fun a => decide (a.key = key))).map (·.v)
end Go.Proofs.YthhjjaoppacnmaaDoor
namespace Go.Proofs.YthhjjaoppacnmaaDoor
open Go.RowKit
set_option linter.unusedVariables false
set_option linter.unusedSimpArgs false

theorem rise_head {a : Int} {l : List Int} (h : rise (a :: l) = true) : ∀ b ∈ l, a < b := by
  induction l generalizing a with
  | nil => intro b hb; simp at hb
  | cons c l ih =>
    simp only [rise, Bool.and_eq_true, decide_eq_true_eq] at h
    intro b hb
    rcases List.mem_cons.1 hb with rfl | hb
    · exact h.1
    · have := ih h.2 b hb; omega
theorem rise_tail {a : Int} {l : List Int} (h : rise (a :: l) = true) : rise l = true := by
  cases l with
  | nil => rfl
  | cons c l => simp only [rise, Bool.and_eq_true] at h; exact h.2
theorem rise_lt {l : List At} (h : riseA l = true) : ∀ {x y : Nat} {a b : At}, x < y → l[x]? = some a → l[y]? = some b → a.key < b.key := by
  induction l with
  | nil => intro x y a b _ h1; simp at h1
  | cons c l ih =>
    intro x y a b hxy h1 h2
    have ht : riseA l = true := rise_tail (a := c.key) (l := l.map At.key) h
    cases y with
    | zero => omega
    | succ y =>
      cases x with
      | zero =>
        simp at h1 h2
        subst h1
        exact rise_head (a := c.key) (l := l.map At.key) h _ (List.mem_map.2 ⟨b, List.mem_of_getElem? h2, rfl⟩)
      | succ x => exact ih ht (Nat.lt_of_succ_lt_succ hxy) (by rw [List.getElem?_cons_succ] at h1; exact h1) (by rw [List.getElem?_cons_succ] at h2; exact h2)

def cmpI (a b : Int) : Int := if a < b then -1 else if b < a then 1 else 0

/-- what the halving knows: keys ahead of i are less, those from j on are not -/
def BsInv (l : List At) (key : Int) (i j : Nat) : Prop :=
  i ≤ j ∧ j ≤ l.length ∧ (riseA l = true → (∀ x a, x < i → l[x]? = some a → a.key < key) ∧ ∀ x a, j ≤ x → l[x]? = some a → key ≤ a.key)
def FindOut (l : List At) (key : Int) (i : Nat) (b : Bool) : Prop :=
  i ≤ l.length ∧ (b = true ↔ ∃ a, l[i]? = some a ∧ a.key = key) ∧ (riseA l = true → (∀ x a, x < i → l[x]? = some a → a.key < key) ∧ ∀ x a, i ≤ x → l[x]? = some a → key ≤ a.key)
theorem BsInv.start (l : List At) (key : Int) : BsInv l key 0 l.length :=
  ⟨Nat.zero_le _, Nat.le_refl _, fun _ => ⟨fun x a h => by omega, fun x a h h1 => by rw [List.getElem?_eq_none h] at h1; cases h1⟩⟩
theorem BsInv.up {l : List At} {key : Int} {i j h : Nat} {a : At} (v : BsInv l key i j) (h2 : h < j) (ha : l[h]? = some a) (hk : a.key < key) : BsInv l key (h + 1) j :=
  ⟨h2, v.2.1, fun r => ⟨fun x b hx hb => by
    rcases Nat.lt_or_ge x h with hlt | hge
    · have := rise_lt r hlt hb ha; omega
    · have : x = h := by omega
      subst this
      rw [ha] at hb; injection hb with hb; subst hb; exact hk, (v.2.2 r).2⟩⟩
theorem BsInv.down {l : List At} {key : Int} {i j h : Nat} {a : At} (v : BsInv l key i j) (h1 : i ≤ h) (h2 : h < j) (ha : l[h]? = some a) (hk : ¬ a.key < key) : BsInv l key i h :=
  ⟨h1, by have := v.2.1; omega, fun r => ⟨(v.2.2 r).1, fun x b hx hb => by
    rcases Nat.lt_or_ge h x with hlt | hge
    · have := rise_lt r hlt ha hb; omega
    · have : x = h := by omega
      subst this
      rw [ha] at hb; injection hb with hb; subst hb; omega⟩⟩
theorem BsInv.done {l : List At} {key : Int} {i j : Nat} {b : Bool} (v : BsInv l key i j) (hij : ¬ i < j) (hb : b = true ↔ ∃ a, l[i]? = some a ∧ a.key = key) : FindOut l key i b := by
  obtain ⟨h1, h2, h3⟩ := v
  have : i = j := by omega
  subst this
  exact ⟨h2, hb, h3⟩

set_option maxHeartbeats 400000 in
theorem cmpNaN_any (x : Int) (w : World) : Calls Tryd.prog 54 #[.int .i64 x] w fun e w' => e = .returned (.bool false) ∧ w = w' := by
  go_enter Tryd.func54, Tryd.ntmps54
  go_wp2
  go_ret
  exact ⟨by simp, rfl⟩

set_option maxHeartbeats 400000 in
theorem compare_any (x y : Int) (w : World) : Calls Tryd.prog 34 #[.int .i64 x, .int .i64 y] w fun e w' => e = .returned (.int .i64 (cmpI x y)) ∧ w = w' := by
  have hc : (x < y ∧ cmpI x y = -1) ∨ (¬ x < y ∧ y < x ∧ cmpI x y = 1) ∨ (¬ x < y ∧ ¬ y < x ∧ cmpI x y = 0) := by
    unfold cmpI
    by_cases h1 : x < y
    · simp [h1]
    · by_cases h2 : y < x <;> simp [h1, h2]
  rcases hc with ⟨h1, hc⟩ | ⟨h1, h2, hc⟩ | ⟨h1, h2, hc⟩
  all_goals
    have HC := Lib.hid hc
    clear hc
    go_enter Tryd.func34, Tryd.ntmps34
    go_wp2_with (go_at_call 54; refine (cmpNaN_any _ _).mono ?_; rintro e w' ⟨rfl, rfl⟩)
    go_ret
    exact ⟨ret_int HC.out.symm, rfl⟩

set_option maxHeartbeats 400000 in
theorem findCmp_any (k a n f key : Int) (s : ByteArray) (w : World) :
    Calls Tryd.prog 63 #[.agg #[.int .i64 k, .int .u8 a, .int .i64 n, .int .u64 f, .string s], .int .i64 key] w fun e w' => e = .returned (.int .i64 (cmpI k key)) ∧ Below w.heap.size w w' := by
  go_enter Tryd.func63, Tryd.ntmps63
  go_wp2_with (go_at_call 34; refine (compare_any _ _ _).mono ?_; rintro e w' ⟨rfl, rfl⟩)
  go_ret
  exact ⟨rfl, (Below.refl _ _).alloc (Nat.le_refl _) _⟩

set_option maxRecDepth 100000 in
set_option maxHeartbeats 400000 in
theorem bsearch_any (A : Option Addr) (n c : Nat) (l : List At) (key : Int) (w : World) (hn : n = l.length) (h : RdAt w w.heap.size A l) (hb : n ≤ 140737488355328) :
    Calls Tryd.prog 62 #[.slice A n c, .int .i64 key, .func (.func 63) #[] #[]] w fun e w' =>
      ∃ (i : Nat) (b : Bool), e = .returned (.tuple #[.int .i64 (i : Int), .bool b]) ∧ FindOut l key i b ∧ Below w.heap.size w w' := by
  have N := Lib.hid hn
  clear hn
  go_enter Tryd.func62, Tryd.ntmps62
  go_wp2_with (fail)
  go_loopg [9, 10] n (fun g iv jv wr => ∃ i j : Nat, g = j - i ∧ iv = .int .i64 (i : Int) ∧ jv = .int .i64 (j : Int) ∧ BsInv l key i j ∧ Below w.heap.size w wr)
  case atStart => exact ⟨0, n, rfl, rfl, rfl, by rw [N.out]; exact BsInv.start l key, Below.refl _ _⟩
  case round =>
    obtain ⟨i, j, hg, rfl, rfl, hinv, hbw⟩ := hrel
    have HG := Lib.hid hg
    clear hg
    have hij : i ≤ j := hinv.1
    have hjn : j ≤ n := by have := hinv.2.1; rw [N.out]; exact this
    by_cases hlt : i < j
    · have hm1 : i ≤ (i + j) / 2 := by omega
      have hm2 : (i + j) / 2 < j := by omega
      obtain ⟨ad, x, rfl, _, _, hx, hc1⟩ := (h.below hbw (Nat.le_refl _)).el (i := (i + j) / 2) (by have := N.out; omega)
      obtain ⟨x1, x2, x3, x4, x5⟩ := x
      obtain ⟨r0, r1, r2, r3, r4⟩ := at_cells hc1
      have HX := Lib.hid hx
      clear hx hc1
      by_cases hk : x1 < key
      · have hcmp : cmpI x1 key = -1 := by simp [cmpI, hk]
        go_wp2_with (go_at_call 63; refine (findCmp_any _ _ _ _ _ _ _).mono ?_; rintro e w' ⟨rfl, hb'⟩)
        have hbw' := hbw.trans (hb'.mono hbw.size)
        go_roundg (j - ((i + j) / 2 + 1))
        case measure => have := HG.out; omega
        case rel => exact ⟨(i + j) / 2 + 1, j, rfl, by go_num, rfl, hinv.up hm2 HX.out hk, hbw'⟩
      · have hcmp : cmpI x1 key = 0 ∨ cmpI x1 key = 1 := by unfold cmpI; by_cases h2 : key < x1 <;> simp [hk, h2]
        have hcmp' : (decide (cmpI x1 key < 0)) = false := by rcases hcmp with h | h <;> simp [h]
        go_wp2_with (go_at_call 63; refine (findCmp_any _ _ _ _ _ _ _).mono ?_; rintro e w' ⟨rfl, hb'⟩)
        have hbw' := hbw.trans (hb'.mono hbw.size)
        go_roundg ((i + j) / 2 - i)
        case measure => have := HG.out; omega
        case rel => exact ⟨i, (i + j) / 2, rfl, rfl, by go_num, hinv.down hm1 hm2 HX.out (by show ¬ x1 < key; omega), hbw'⟩
    · by_cases hin : i < n
      · obtain ⟨ad, x, rfl, _, _, hx, hc1⟩ := (h.below hbw (Nat.le_refl _)).el (i := i) (by have := N.out; omega)
        obtain ⟨x1, x2, x3, x4, x5⟩ := x
        obtain ⟨r0, r1, r2, r3, r4⟩ := at_cells hc1
        have HX := Lib.hid hx
        clear hx hc1
        by_cases hk : x1 = key
        · have hcmp : (cmpI x1 key == 0) = true := by simp [cmpI, hk]
          have HK := Lib.hid hk
          clear hk
          go_wp2_with (go_at_call 63; refine (findCmp_any _ _ _ _ _ _ _).mono ?_; rintro e w' ⟨rfl, hb'⟩)
          go_ret2
          exact ⟨i, true, rfl, hinv.done hlt (by simpa using ⟨_, HX.out, HK.out⟩), hbw.trans (hb'.mono hbw.size)⟩
        · have hcmp : (cmpI x1 key == 0) = false := by
            unfold cmpI
            by_cases h1 : x1 < key <;> by_cases h2 : key < x1 <;> simp [h1, h2]
            omega
          go_wp2_with (go_at_call 63; refine (findCmp_any _ _ _ _ _ _ _).mono ?_; rintro e w' ⟨rfl, hb'⟩)
          go_ret2
          exact ⟨i, false, rfl, hinv.done hlt (by simp [HX.out, hk]), hbw.trans (hb'.mono hbw.size)⟩
      · go_wp2_with (fail)
        go_ret2
        have hl : l[i]? = none := List.getElem?_eq_none (by have := N.out; omega)
        exact ⟨i, false, rfl, hinv.done hlt (by simp [hl]), hbw⟩

set_option maxHeartbeats 400000 in
theorem find_any (A : Option Addr) (n c : Nat) (l : List At) (key : Int) (w : World) (hn : n = l.length) (h : RdAt w w.heap.size A l) (hb : n ≤ 140737488355328) :
    Calls Tryd.prog 41 #[.slice A n c, .int .i64 key] w fun e w' =>
      ∃ (i : Nat) (b : Bool), e = .returned (.tuple #[.int .i64 (i : Int), .bool b]) ∧ FindOut l key i b ∧ Below w.heap.size w w' := by
  have N := Lib.hid hn
  clear hn
  go_enter Tryd.func41, Tryd.ntmps41
  go_wp2_with (go_at_call 62; refine (bsearch_any A n c l key _ N.out h hb).mono ?_; rintro e w' ⟨i, b, rfl, hf, hb'⟩)
  go_ret2
  exact ⟨i, b, rfl, hf, hb'⟩

theorem getA_hit {l : List At} (hr : riseA l = true) {i : Nat} {a : At} (h : l[i]? = some a) : getA l a.key = some a.v := by
  unfold getA
  have : l.find? (fun b => decide (b.key = a.key)) = some a := by
    induction l generalizing i with
    | nil => simp at h
    | cons c l ih =>
      cases i with
      | zero => simp at h; subst h; simp
      | succ i =>
        have hlt : c.key < a.key := rise_lt hr (x := 0) (y := i + 1) (by omega) rfl h
        rw [List.find?_cons_of_neg (by simp; omega)]
        exact ih (rise_tail (a := c.key) (l := l.map At.key) hr) (by rw [List.getElem?_cons_succ] at h; exact h)
  rw [this]; rfl
theorem getA_miss {l : List At} {key : Int} (h : ∀ a ∈ l, a.key ≠ key) : getA l key = none := by
  unfold getA
  rw [List.find?_eq_none.2 (by intro a ha; simpa using h a ha)]; rfl

/-- what attrs.Get answers -/
def GetOut (l : List At) (key : Int) (v : V) (b : Bool) : Prop :=
  (b = true → ∃ a ∈ l, a.key = key ∧ a.v = v) ∧ (b = false → v = V.zero) ∧ (riseA l = true → getA l key = if b then some v else none)

set_option maxHeartbeats 400000 in
theorem get_any (A : Option Addr) (n c : Nat) (l : List At) (key : Int) (w : World) (hn : n = l.length) (h : RdAt w w.heap.size A l) (hb : n ≤ 140737488355328) :
    Calls Tryd.prog 15 #[.slice A n c, .int .i64 key] w fun e w' =>
      ∃ (v : V) (b : Bool), e = .returned (.tuple #[.agg #[.int .u8 v.k, .int .i64 v.n, .int .u64 v.f, .string v.s], .bool b]) ∧ GetOut l key v b ∧ Below w.heap.size w w' := by
  have N := Lib.hid hn
  clear hn
  go_enter Tryd.func15, Tryd.ntmps15
  go_wp2_with (fail)
  refine (find_any A n c l key _ N.out ((h.alloc (Nat.le_refl _) _).more (by simp)) hb).mono ?_
  rintro e w1 ⟨i, b, rfl, hf, hb1⟩
  have hbx := (hb1.block w.heap.size (by simp)).trans (heap_alloc_new w _)
  have hbw : Below w.heap.size w w1 := ((Below.refl _ _).alloc (Nat.le_refl _) _).trans (hb1.mono (by simp))
  have hlt1 : w.heap.size < w1.heap.size := by have := hb1.size; simp at this; omega
  obtain ⟨b0, b1, b2, b3⟩ := box_v hbx
  have hfr := box_free hbx
  obtain ⟨f0, f1, f2, f3⟩ : w1.frozen? ⟨w.heap.size, 0, none⟩ = false ∧ w1.frozen? ⟨w.heap.size, 1, none⟩ = false ∧ w1.frozen? ⟨w.heap.size, 2, none⟩ = false ∧ w1.frozen? ⟨w.heap.size, 3, none⟩ = false := ⟨hfr 0, hfr 1, hfr 2, hfr 3⟩
  clear hfr hbx
  cases b with
  | false =>
    go_wp2_with (fail)
    refine bodyPost_ret (v := .tuple #[.agg #[.int .u8 0, .int .i64 0, .int .u64 0, .string ⟨#[]⟩], .bool false]) (by simp [results, Tryd.results15, go_sem, b0, b1, b2, b3]) rfl ⟨V.zero, false, rfl, ⟨by simp, fun _ => rfl, fun hr => ?_⟩, ?_⟩
    · refine getA_miss fun a ha e => ?_
      obtain ⟨j, hj⟩ := List.getElem?_of_mem ha
      obtain ⟨_, h2, h3⟩ := hf
      have h4 := (h3 hr).1 j a
      have h5 := (h3 hr).2 j a
      rcases Nat.lt_or_ge j i with hlt | hge
      · have := h4 hlt hj; omega
      · rcases Nat.eq_or_lt_of_le hge with he | hgt
        · subst he
          have := h2.2 ⟨a, hj, e⟩
          cases this
        · have hi : i < l.length := by have := (List.getElem?_eq_some_iff.1 hj).1; omega
          have h6 := (h3 hr).2 i _ (Nat.le_refl _) (List.getElem?_eq_getElem hi)
          have h7 := rise_lt hr hgt (List.getElem?_eq_getElem hi) hj
          omega
    · exact (((hbw.setCell (by simp) _).setCell (by simp) _).setCell (by simp) _).setCell (by simp) _
  | true =>
    obtain ⟨x, hx, hxk⟩ := hf.2.1.1 rfl
    have hil : i < l.length := (List.getElem?_eq_some_iff.1 hx).1
    obtain ⟨ad, y, rfl, _, _, hy, hc1⟩ := (h.below hbw (Nat.le_refl _)).el hil
    rw [hx] at hy
    injection hy with hy
    subst hy
    have hin : i < n := by have := N.out; omega
    have HX := Lib.hid hx
    have HXK := Lib.hid hxk
    clear hx hxk hf
    obtain ⟨x1, x2, x3, x4, x5⟩ := x
    obtain ⟨r0, r1, r2, r3, r4⟩ := at_cells hc1
    go_wp2_with (fail)
    refine bodyPost_ret (v := .tuple #[.agg #[.int .u8 x2, .int .i64 x3, .int .u64 x4, .string x5], .bool true]) (by simp [results, Tryd.results15, go_sem, b0, b1, b2, b3]) rfl ⟨⟨x2, x3, x4, x5⟩, true, rfl, ⟨fun _ => ⟨_, List.mem_of_getElem? HX.out, HXK.out, rfl⟩, by simp, fun hr => ?_⟩, ?_⟩
    · rw [← HXK.out]; exact getA_hit hr HX.out
    · exact (((hbw.setCell (by simp) _).setCell (by simp) _).setCell (by simp) _).setCell (by simp) _
end Go.Proofs.YthhjjaoppacnmaaDoor
