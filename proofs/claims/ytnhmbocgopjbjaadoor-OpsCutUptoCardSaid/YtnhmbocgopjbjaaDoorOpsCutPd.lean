/- The walk of rubriclaw15.OpsCut: whatever is handed in, it answers true and changes nothing that was there. -/
import Derived.Test.YtnhmbocgopjbjaaDoorPk16
import Derived.Test.YtnhmbocgopjbjaaDoorPk17
import Derived.Test.YtnhmbocgopjbjaaDoorPk6
namespace Go.Proofs.YtnhmbocgopjbjaaDoor
open Go.RowKit
set_option linter.unusedVariables false
set_option linter.unusedSimpArgs false

theorem wrap64_nonneg (x : Int) : 0 ≤ IntKind.u64.wrap x := by unfold IntKind.wrap; simp [IntKind.bits, IntKind.signed]; omega
theorem Tryd.slOp : Tryd.prog.underlying 23 = some (.slice 41) := by kernel_rfl
theorem Tryd.elOp : Tryd.prog.elem 23 = 41 := by kernel_rfl
theorem Tryd.szOp : (Tryd.prog.info? 41).map (·.size) = some 5 := by kernel_rfl
theorem size_op (W : World) : (sizeOf 41).run Tryd.prog W = .ok 5 W := by
  cases h : Tryd.prog.info? 41 with
  | none => have := Tryd.szOp; rw [h] at this; cases this
  | some i => have := Tryd.szOp; rw [h] at this; simp at this; simp [sizeOf, typeInfo, h, this]
set_option maxRecDepth 100000 in
set_option maxHeartbeats 6400000 in
theorem opsCut_any (A0 A1 : Option Addr) (n0 n1 c0 c1 : Nat) (l0 : List Ky) (l1 : List OpS) (cut : Int) (w : World)
    (e0 : n0 = l0.length) (e1 : n1 = l1.length) (r0 : RdKy w w.heap.size A0 l0) (r1 : RdOp w w.heap.size A1 l1) (b0 : n0 ≤ 1048576) (b1 : n1 ≤ 1048576) (hnc : n1 ≤ c1) (q1 : ∀ o ∈ l1, okOp o.o) (hT : Lib.Utf8Tabs 1 2 w) :
    Calls Tryd.prog 4 #[.slice A0 n0 c0, .slice A1 n1 c1, .int .i64 cut] w fun e w' => e = .returned (.bool true) ∧ Below w.heap.size w w' := by
  have N1 := Lib.hid e1
  have N0 := Lib.hid e0
  have hx := ext_alloc w (.cells #[.slice A1 n1 c1] 23)
  have rs : Rd SX.enc 1 (w.alloc (.cells #[.slice A1 n1 c1] 23)) (w.alloc (.cells #[.slice A1 n1 c1] 23)).heap.size (some ⟨w.heap.size, 0, none⟩) [⟨A1, c1, l1⟩] := Rd.new (enc := SX.enc) (size := 1) (fun _ => rfl) w 23 [⟨A1, c1, l1⟩] (cs := #[.slice A1 n1 c1]) (by simp [SX.enc, ← N1.out]) rfl
  clear e0 e1
  go_enter Tryd.func4, Tryd.ntmps4
  go_wp2_with (go_at_call 10; refine Hid.out ?_)
  refine Lib.hid ?_
  refine (great15_any A0 _ n0 c0 1 1 [⟨A1, c1, l1⟩] _ rfl (by omega) rs (fun s hs => by
    simp at hs; subst hs
    exact ⟨r1.ext hx, by have := N1.out; simp only; omega, q1⟩) (by omega)).mono ?_
  rintro e v ⟨g, rfl, hgr, d, rfl⟩
  have hx := ext_trans hx (ext_drew _ d)
  generalize (w.alloc (.cells #[.slice A1 n1 c1] 23)).drewN d = u0 at *
  clear hgr rs
  cases g
  case true =>
    go_wp2_with (go_at_call 11; refine Hid.out ?_)
    refine Lib.hid ?_
    refine (known15_any _ (Utf8Tabs_below hT hx)).mono ?_
    rintro e w9 ⟨rfl, y⟩
    replace hx := ext_trans hx y
    go_wp2_with (fail)
    go_ret
    exact ⟨by first | rfl | trace_state, hx⟩
  go_wp2_with (go_at_call 12; refine Hid.out ?_)
  refine Lib.hid ?_
  refine (new_any A0 n0 c0 l0 _ N0.out (r0.ext hx) (by omega)).mono ?_
  rintro e v1 ⟨y, ⟨hm, s, rfl, hS⟩ | ⟨hm, rfl⟩⟩
  all_goals
    replace hx := ext_trans hx y
    clear y hm
  rotate_left
  · skip
    go_wp2_with (go_at_call 11; refine Hid.out ?_)
    refine Lib.hid ?_
    refine (known15_any _ (Utf8Tabs_below hT hx)).mono ?_
    rintro e w9 ⟨rfl, y⟩
    replace hx := ext_trans hx y
    go_wp2_with (fail)
    go_ret
    exact ⟨by first | rfl | trace_state, hx⟩
  have HS := Lib.hid hS
  clear hS
  have hN : IntKind.i64.wrap ((n1 : Int) + 1) = (n1 : Int) + 1 := IntWalk.i64_in _ (by omega)
  have hN2 : IntKind.u64.wrap ((n1 : Int) + 1) = (n1 : Int) + 1 := IntWalk.u64_in _ (by omega)
  have hn0 : ((n1 : Int) + 1 == 0) = false := beq_eq_false_iff_ne.2 (by omega)
  have hC0 : 0 ≤ IntKind.u64.wrap cut := wrap64_nonneg cut
  obtain ⟨C, hC⟩ : ∃ X, IntKind.u64.wrap cut = X := ⟨_, rfl⟩
  rw [hC] at hC0
  obtain ⟨k, hk⟩ : ∃ k : Nat, Int.tmod C ((n1 : Int) + 1) = (k : Int) := ⟨(Int.tmod C ((n1 : Int) + 1)).toNat, by have := Int.tmod_nonneg ((n1 : Int) + 1) hC0; omega⟩
  have hkn : k ≤ n1 := by have := Int.tmod_lt_of_pos C (show (0 : Int) < (n1 : Int) + 1 by omega); omega
  have hk1 : IntKind.u64.wrap (k : Int) = k := IntWalk.u64_in _ (by omega)
  have hk2 : IntKind.i64.wrap (k : Int) = k := IntWalk.i64_in _ (by omega)
  clear hC0
  obtain ⟨E, hE⟩ : ∃ X, mayO l0 l1 = X := ⟨_, rfl⟩
  have HE := Lib.hid hE
  go_wp2_with (go_at_call 16; refine Hid.out ?_)
  refine Lib.hid ?_
  refine (mayO_any s l0 A1 n1 c1 l1 _ N1.out (r1.ext hx) (by omega) HS.out q1 (Utf8Tabs_below hT hx)).mono ?_
  rintro e v2 ⟨rfl, y⟩
  rw [HE.out]
  have HS := Lib.hid (HS.out.ext y)
  replace hx := ext_trans hx y
  clear y
  by_cases hE0 : E = 0
  rotate_left
  · have hne : (E == 0) = false := beq_eq_false_iff_ne.2 hE0
    clear hE hE0
    go_wp2_with (go_at_call 11; refine Hid.out ?_)
    refine Lib.hid ?_
    refine (known15_any _ (Utf8Tabs_below hT hx)).mono ?_
    rintro e w9 ⟨rfl, y⟩
    replace hx := ext_trans hx y
    go_wp2_with (fail)
    go_ret
    exact ⟨by first | rfl | trace_state, hx⟩
  subst hE0
  obtain ⟨d1, d2, d3, d4, d5⟩ := cut_may k (by have := N1.out; omega) hE
  have D1 := Lib.hid d1
  have D2 := Lib.hid d2
  have D3 := Lib.hid d3
  have D4 := Lib.hid d4
  have D5 := Lib.hid d5
  clear hE d1 d2 d3 d4 d5 HE
  obtain ⟨A8, hA8⟩ : ∃ X, advS A1 c1 k 5 = X := ⟨_, rfl⟩
  obtain ⟨n8, hn8⟩ : ∃ X, n1 - k = X := ⟨_, rfl⟩
  obtain ⟨c8, hc8⟩ : ∃ X, c1 - k = X := ⟨_, rfl⟩
  have sl1 : ∀ W, (Instr.slice 23 (.slice A1 n1 c1) none (some (.int .i64 (k : Int))) none).run Tryd.prog W = .ok (.slice A1 k c1) W := sl_to (l := k) Tryd.slOp Tryd.elOp size_op rfl (by omega)
  have sl2 : ∀ W, (Instr.slice 23 (.slice A1 n1 c1) (some (.int .i64 (k : Int))) none none).run Tryd.prog W = .ok (.slice A8 n8 c8) W := sl_from Tryd.slOp Tryd.elOp size_op rfl hA8 hn8 hc8 hkn hnc
  have hla : k = (l1.take k).length := by rw [List.length_take]; have := N1.out; omega
  have hlb : n8 = (l1.drop k).length := by rw [List.length_drop]; have := N1.out; omega
  have LA := Lib.hid hla
  have LB := Lib.hid hlb
  have ra : ∀ {v : World}, Below w.heap.size w v → RdOp v v.heap.size A1 (l1.take k) := fun h => ⟨(r1.ext h).1.take k, fun o ho => (r1.ext h).2 o (List.mem_of_mem_take ho)⟩
  have rb : ∀ {v : World}, Below w.heap.size w v → RdOp v v.heap.size A8 (l1.drop k) := fun h => ⟨hA8 ▸ (r1.ext h).1.advS (by have := N1.out; omega) (by have := N1.out; omega), fun o ho => (r1.ext h).2 o (List.mem_of_mem_drop ho)⟩
  have qa : ∀ o ∈ l1.take k, okOp o.o := fun o ho => q1 o (List.mem_of_mem_take ho)
  have qb : ∀ o ∈ l1.drop k, okOp o.o := fun o ho => q1 o (List.mem_of_mem_drop ho)
  have hb8 : n8 ≤ 1048576 := by omega
  clear hla hlb hA8 hc8
  go_wp2_with (fail)
  go_quiet (fail)
  have hx := ext_trans hx (ext_drew _ nq)
  have HS := Lib.hid (HS.out.ext (ext_drew _ nq))
  generalize World.drewN v2 nq = u1 at *
  go_wp2_with (go_at_call 16; refine Hid.out ?_)
  refine Lib.hid ?_
  refine (mayO_any s l0 A1 k c1 (l1.take k) _ LA.out (ra hx) (by omega) HS.out qa (Utf8Tabs_below hT hx)).mono ?_
  rintro e v3 ⟨rfl, y⟩
  rw [D1.out]
  have HS := Lib.hid (HS.out.ext y)
  replace hx := ext_trans hx y
  clear y
  go_wp2_with (go_at_call 16; refine Hid.out ?_)
  refine Lib.hid ?_
  refine (mayO_any s l0 A8 n8 c8 (l1.drop k) _ LB.out (rb hx) (by omega) HS.out qb (Utf8Tabs_below hT hx)).mono ?_
  rintro e v3 ⟨rfl, y⟩
  rw [D2.out]
  have HS := Lib.hid (HS.out.ext y)
  replace hx := ext_trans hx y
  clear y
  obtain ⟨TA, hTA⟩ : ∃ X, takesP (l1.take k) = X := ⟨_, rfl⟩
  obtain ⟨TB, hTB⟩ : ∃ X, takesP (l1.drop k) = X := ⟨_, rfl⟩
  obtain ⟨TX, hTX⟩ : ∃ X, takesP l1 = X := ⟨_, rfl⟩
  have hTw : IntKind.i64.wrap (TA + TB) = TX := by rw [← hTA, ← hTB, ← hTX]; exact D3.out
  have ETA := Lib.hid hTA
  have ETB := Lib.hid hTB
  have ETX := Lib.hid hTX
  clear hTA hTB hTX
  go_wp2_with (go_at_call 14; refine Hid.out ?_)
  refine Lib.hid ?_
  refine (takes_any A1 k c1 (l1.take k) _ LA.out (ra hx).1 (by omega)).mono ?_
  rintro e v3 ⟨rfl, y⟩
  rw [ETA.out]
  have HS := Lib.hid (HS.out.ext y)
  replace hx := ext_trans hx y
  clear y
  go_wp2_with (go_at_call 14; refine Hid.out ?_)
  refine Lib.hid ?_
  refine (takes_any A8 n8 c8 (l1.drop k) _ LB.out (rb hx).1 (by omega)).mono ?_
  rintro e v3 ⟨rfl, y⟩
  rw [ETB.out]
  have HS := Lib.hid (HS.out.ext y)
  replace hx := ext_trans hx y
  clear y
  go_wp2_with (go_at_call 14; refine Hid.out ?_)
  refine Lib.hid ?_
  refine (takes_any A1 n1 c1 l1 _ N1.out (r1.ext hx).1 (by omega)).mono ?_
  rintro e v3 ⟨rfl, y⟩
  rw [ETX.out]
  have HS := Lib.hid (HS.out.ext y)
  replace hx := ext_trans hx y
  clear y
  obtain ⟨MA, hMA⟩ : ∃ X, makesP (l1.take k) = X := ⟨_, rfl⟩
  obtain ⟨MB, hMB⟩ : ∃ X, makesP (l1.drop k) = X := ⟨_, rfl⟩
  obtain ⟨MX, hMX⟩ : ∃ X, makesP l1 = X := ⟨_, rfl⟩
  have hMw : IntKind.i64.wrap (MA + MB) = MX := by rw [← hMA, ← hMB, ← hMX]; exact D4.out
  have EMA := Lib.hid hMA
  have EMB := Lib.hid hMB
  have EMX := Lib.hid hMX
  clear hMA hMB hMX
  go_wp2_with (go_at_call 15; refine Hid.out ?_)
  refine Lib.hid ?_
  refine (makes_any A1 k c1 (l1.take k) _ LA.out (ra hx).1 (by omega)).mono ?_
  rintro e v3 ⟨rfl, y⟩
  rw [EMA.out]
  have HS := Lib.hid (HS.out.ext y)
  replace hx := ext_trans hx y
  clear y
  go_wp2_with (go_at_call 15; refine Hid.out ?_)
  refine Lib.hid ?_
  refine (makes_any A8 n8 c8 (l1.drop k) _ LB.out (rb hx).1 (by omega)).mono ?_
  rintro e v3 ⟨rfl, y⟩
  rw [EMB.out]
  have HS := Lib.hid (HS.out.ext y)
  replace hx := ext_trans hx y
  clear y
  go_wp2_with (go_at_call 15; refine Hid.out ?_)
  refine Lib.hid ?_
  refine (makes_any A1 n1 c1 l1 _ N1.out (r1.ext hx).1 (by omega)).mono ?_
  rintro e v3 ⟨rfl, y⟩
  rw [EMX.out]
  have HS := Lib.hid (HS.out.ext y)
  replace hx := ext_trans hx y
  clear y
  obtain ⟨PA, hPA⟩ : ∃ X, placeP l0 (l1.take k) = X := ⟨_, rfl⟩
  obtain ⟨PB, hPB⟩ : ∃ X, placeP l0 (l1.drop k) = X := ⟨_, rfl⟩
  have HPA := Lib.hid hPA
  have HPB := Lib.hid hPB
  have D6 : Hid (placeP l0 l1 = (PA && PB)) := Lib.hid (by rw [← hPA, ← hPB]; exact D5.out)
  clear hPA hPB D5
  go_wp2_with (go_at_call 17; refine Hid.out ?_)
  refine Lib.hid ?_
  refine (inPlace_any s l0 A1 n1 c1 l1 _ N1.out (r1.ext hx) (by omega) HS.out q1).mono ?_
  rintro e v3 ⟨rfl, y⟩
  rw [D6.out]
  have HS := Lib.hid (HS.out.ext y)
  replace hx := ext_trans hx y
  clear y
  go_wp2_with (go_at_call 17; refine Hid.out ?_)
  refine Lib.hid ?_
  refine (inPlace_any s l0 A1 k c1 (l1.take k) _ LA.out (ra hx) (by omega) HS.out qa).mono ?_
  rintro e v3 ⟨rfl, y⟩
  rw [HPA.out]
  have HS := Lib.hid (HS.out.ext y)
  replace hx := ext_trans hx y
  clear y
  cases PA
  · skip
    go_wp2_with (go_at_call 11; refine Hid.out ?_)
    refine Lib.hid ?_
    refine (known15_any _ (Utf8Tabs_below hT hx)).mono ?_
    rintro e w9 ⟨rfl, y⟩
    replace hx := ext_trans hx y
    go_wp2_with (fail)
    go_ret
    exact ⟨by first | rfl | trace_state, hx⟩
  go_wp2_with (go_at_call 17; refine Hid.out ?_)
  refine Lib.hid ?_
  refine (inPlace_any s l0 A8 n8 c8 (l1.drop k) _ LB.out (rb hx) (by omega) HS.out qb).mono ?_
  rintro e v3 ⟨rfl, y⟩
  rw [HPB.out]
  have HS := Lib.hid (HS.out.ext y)
  replace hx := ext_trans hx y
  clear y
  cases PB
  · skip
    go_wp2_with (go_at_call 11; refine Hid.out ?_)
    refine Lib.hid ?_
    refine (known15_any _ (Utf8Tabs_below hT hx)).mono ?_
    rintro e w9 ⟨rfl, y⟩
    replace hx := ext_trans hx y
    go_wp2_with (fail)
    go_ret
    exact ⟨by first | rfl | trace_state, hx⟩
  · skip
    go_wp2_with (go_at_call 11; refine Hid.out ?_)
    refine Lib.hid ?_
    refine (known15_any _ (Utf8Tabs_below hT hx)).mono ?_
    rintro e w9 ⟨rfl, y⟩
    replace hx := ext_trans hx y
    go_wp2_with (fail)
    go_ret
    exact ⟨by first | rfl | trace_state, hx⟩
end Go.Proofs.YtnhmbocgopjbjaaDoor
