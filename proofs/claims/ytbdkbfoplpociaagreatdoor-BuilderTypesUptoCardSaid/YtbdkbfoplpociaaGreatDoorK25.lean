/- Merged texts: ApplyW, FitNf, MkGap. -/
import Derived.Test.YtbdkbfoplpociaaGreatDoorK24
import Derived.Test.YtbdkbfoplpociaaGreatDoorK17
import Derived.Test.YtbdkbfoplpociaaGreatDoorK21
namespace Go.Proofs.YtbdkbfoplpociaaGreatDoor
open Go.RowKit Go.Shelf
set_option linter.unusedVariables false
set_option linter.unusedSimpArgs false
attribute [local go_sem] Oper.semAt_some

/-- apply.each answers its iterator; its three boxes are new -/
def EachNew (sc : Nat) (A1 Ax : Option Addr) (n1 c1 nx cx : Nat) (w : World) (e : Ending) (w' : World) : Prop :=
  e = .returned (.func (.func 182) #[] #[.pointer (some ⟨w.heap.size + 2, 0, none⟩), .pointer (some ⟨w.heap.size + 1, 0, none⟩), .pointer (some ⟨w.heap.size, 0, none⟩)]) ∧ Below w.heap.size w w' ∧ w'.heap.size = w.heap.size + 3 ∧
    w'.heap[w.heap.size]? = some (.cells #[.pointer (some ⟨sc, 0, none⟩)] 28 (0, 0)) ∧ w'.heap[w.heap.size + 1]? = some (.cells #[.slice A1 n1 c1] 55 (0, 0)) ∧ w'.heap[w.heap.size + 2]? = some (.cells #[.slice Ax nx cx] 23 (0, 0))
set_option maxRecDepth 100000 in
set_option maxHeartbeats 800000 in
theorem each_any (sc : Nat) (A1 Ax : Option Addr) (n1 c1 nx cx : Nat) (w : World) :
    Calls Tryz.prog 112 #[.pointer (some ⟨sc, 0, none⟩), .slice A1 n1 c1, .slice Ax nx cx] w (EachNew sc A1 Ax n1 c1 nx cx w) := by
  go_enter Tryz.func112, Tryz.ntmps112
  go_wp2_with (fail)
  go_ret
  have ya := ext_alloc w (.cells #[.pointer (some ⟨sc, 0, none⟩)] 28)
  have yb := ext_alloc (w.alloc (.cells #[.pointer (some ⟨sc, 0, none⟩)] 28)) (.cells #[.slice A1 n1 c1] 55)
  have yc := ext_alloc ((w.alloc (.cells #[.pointer (some ⟨sc, 0, none⟩)] 28)).alloc (.cells #[.slice A1 n1 c1] 55)) (.cells #[.slice Ax nx cx] 23)
  have ha := heap_alloc_new w (.cells #[.pointer (some ⟨sc, 0, none⟩)] 28)
  have hb := heap_alloc_new (w.alloc (.cells #[.pointer (some ⟨sc, 0, none⟩)] 28)) (.cells #[.slice A1 n1 c1] 55)
  have hc := heap_alloc_new ((w.alloc (.cells #[.pointer (some ⟨sc, 0, none⟩)] 28)).alloc (.cells #[.slice A1 n1 c1] 55)) (.cells #[.slice Ax nx cx] 23)
  refine ⟨?_, ext_trans ya (ext_trans yb yc), by simp, (yc.block _ (lt_of_some ((yb.block _ (lt_of_some ha)).trans ha))).trans ((yb.block _ (lt_of_some ha)).trans ha), ?_, ?_⟩
  · exact rfl
  · have h := (yc.block _ (lt_of_some hb)).trans hb
    simpa using h
  · simpa using hc

/-- what apply.Apply answers -/
def ApplyOut (l : List Ky) (x : List OpS) (d : List Cl) (most : Int) (w : World) (e : Ending) (w' : World) : Prop :=
  Below w.heap.size w w' ∧ ((applyN l x d most ≠ 0 ∧ e = .returned (.tuple #[.slice none 0 0, .int .i64 (applyN l x d most)])) ∨
    (applyN l x d most = 0 ∧ ∃ A c L, e = .returned (.tuple #[.slice A L.length c, .int .i64 0]) ∧ clsOf L = app l (units (osOf x)) d ∧ OwCs w' w.heap.size (.slice A L.length c) L ∧ ∀ z ∈ L, PartC w' w.heap.size (.slice A L.length c) z))
set_option maxRecDepth 100000 in
set_option maxHeartbeats 3200000 in
theorem applyD_any (sc : Nat) (l : List Ky) (A1 Ax : Option Addr) (n1 c1 nx cx : Nat) (d : List ClS) (x : List OpS) (most : Int) (w : World)
    (hn1 : n1 = d.length) (hnx : nx = x.length) (k1 : n1 ≤ c1) (b1 : n1 ≤ 100000) (bx : nx ≤ 1048576) (h1 : RdCl w w.heap.size A1 d) (hx : RdOp w w.heap.size Ax x) (hS : Sch w sc l)
    (hcs : ∀ z ∈ d, z.c.s.length ≤ 100000000 ∧ okVr z.c.s) (hcap : ∀ z ∈ d, z.c.s.length ≤ z.cs ∧ z.cs ≤ maxLen) (hop : ∀ o ∈ x, okOp o.o) (hT : Lib.Utf8Tabs 1 2 w) :
    Calls Tryz.prog 38 #[.pointer (some ⟨sc, 0, none⟩), .slice A1 n1 c1, .slice Ax nx cx, .int .i64 most] w (ApplyOut l x (clsOf d) most w) := by
  obtain ⟨n, _⟩ : ∃ n : Nat, n = n := ⟨0, rfl⟩
  refine (callsIn_wide (n := n)).1 ?_
  refine callsIn_of_wp_marks Tryz.func38 rfl trivial ?_ rfl
  simp only [Tryz.ntmps38, List.size_toArray, List.length_cons, List.length_nil, Nat.reduceAdd, Nat.reduceSub, Array.replicate_succ, Array.replicate_zero, List.push_toArray, List.append_toArray, List.nil_append, List.cons_append]
  have N1 := Lib.hid hn1
  have NX := Lib.hid hnx
  have H1 := Lib.hid h1
  have HX := Lib.hid hx
  have HS := Lib.hid hS
  have HCS := Lib.hid hcs
  have HCAP := Lib.hid hcap
  have HOP := Lib.hid hop
  have HT := Lib.hid hT
  have K1 := Lib.hid k1
  have BX := Lib.hid bx
  have B1 := Lib.hid b1
  have ND : Hid ((clsOf d).length = n1) := Lib.hid (by rw [clsOf_len, hn1])
  clear hn1 hnx h1 hx hS hcs hcap hop hT k1 bx b1
  gi_wp2
  refine ⟨trivial, fun h => (by cases h), (callsIn_wide.2 (mayO_any sc l Ax nx cx x w NX.out HX.out (by have := BX.out; omega) HS.out HOP.out HT.out)).mono ?_⟩
  obtain ⟨eo, heo⟩ : ∃ X, mayO l x = X := ⟨_, rfl⟩
  rw [heo]
  rintro e w1 ⟨rfl, y1⟩
  have EO := Lib.hid heo
  have Y1 := Lib.hid y1
  clear heo y1
  by_cases h0 : eo = 0
  rotate_left
  · have h0' : (eo == 0) = false := beq_eq_false_iff_ne.2 h0
    gi_wp2
    refine ⟨.tuple #[.slice none 0 0, .int .i64 eo], (by simp [results, Tryz.results38, go_sem]), Y1.out, .inl ⟨?_, ?_⟩⟩
    all_goals rw [show applyN l x (clsOf d) most = eo by unfold applyN; rw [EO.out, if_pos h0]]
    exact h0
  subst h0
  gi_wp2
  refine ⟨trivial, fun h => (by cases h), (callsIn_wide.2 (mayCells_any sc l A1 n1 c1 d w1 N1.out (H1.out.ext Y1.out) B1.out (HS.out.ext Y1.out) HCS.out (Utf8Tabs_below HT.out Y1.out))).mono ?_⟩
  obtain ⟨ed, hed⟩ : ∃ X, mayD l (clsOf d) = X := ⟨_, rfl⟩
  rw [hed]
  rintro e w2 ⟨rfl, y2⟩
  have ED := Lib.hid hed
  have Y2 := Lib.hid (ext_trans Y1.out y2)
  clear hed y2
  by_cases h0 : ed = 0
  rotate_left
  · have h0' : (ed == 0) = false := beq_eq_false_iff_ne.2 h0
    gi_wp2
    refine ⟨.tuple #[.slice none 0 0, .int .i64 3], (by simp [results, Tryz.results38, go_sem]), Y2.out, .inl ⟨?_, ?_⟩⟩
    all_goals rw [show applyN l x (clsOf d) most = 3 by unfold applyN; rw [EO.out, ED.out, if_neg (by decide), if_pos h0]]
    decide
  subst h0
  gi_wp2
  refine ⟨trivial, fun h => (by cases h), (callsIn_wide.2 (fitsO_any sc l Ax nx cx x n1 most w2 NX.out (HX.out.ext Y2.out) (by have := BX.out; omega) (HS.out.ext Y2.out) HOP.out (Utf8Tabs_below HT.out Y2.out))).mono ?_⟩
  obtain ⟨ef, hef⟩ : ∃ X, fitsO l x n1 most = X := ⟨_, rfl⟩
  rw [hef]
  rintro e w3 ⟨rfl, y3⟩
  have EF := Lib.hid hef
  have Y3 := Lib.hid (ext_trans Y2.out y3)
  clear hef y3
  by_cases h0 : ef = 0
  rotate_left
  · have h0' : (ef == 0) = false := beq_eq_false_iff_ne.2 h0
    gi_wp2
    refine ⟨.tuple #[.slice none 0 0, .int .i64 ef], (by simp [results, Tryz.results38, go_sem]), Y3.out, .inl ⟨?_, ?_⟩⟩
    all_goals rw [show applyN l x (clsOf d) most = ef by unfold applyN; rw [EO.out, ED.out, if_neg (by decide), if_neg (by decide), ND.out, EF.out]]
    exact h0
  subst h0
  gi_wp2
  obtain ⟨m, hm⟩ : ∃ m, w3.heap.size = m := ⟨_, rfl⟩
  have hz : (w3.alloc (.cells #[.slice none 0 0] 55)).heap.size = m + 1 := by rw [World.size_alloc, hm]
  have ho := heap_alloc_new w3 (.cells #[.slice none 0 0] 55)
  have yo := ext_alloc w3 (.cells #[.slice none 0 0] 55)
  refine ⟨trivial, fun h => (by cases h), (callsIn_wide.2 (each_any sc A1 Ax n1 c1 nx cx _)).mono ?_⟩
  unfold EachNew
  rw [hz]
  rintro e w4 ⟨rfl, y4, s4, hb1, hb2, hb3⟩
  rw [hm] at ho yo
  have hout := (y4.block m (by omega)).trans ho
  have YO : Hid (Below m w3 w4) := Lib.hid (yo.trans (y4.mono (by omega)))
  have S4 : Hid (w4.heap.size = m + 4) := Lib.hid s4
  have HM := Lib.hid hm
  have HB := Lib.hid (And.intro hout (And.intro hb1 (And.intro hb2 hb3)))
  rw [hm]
  clear ho yo y4 s4 hb1 hb2 hb3 hout hz hm
  have hgood := (mayO_zero EO.out).1
  have HG0 := Lib.hid hgood
  have SU := sums_units x (good_isOp hgood)
  have TK : Hid (tks (osOf x) ≤ d.length) := Lib.hid (by
    rw [tks_units (fun o ho => by
      unfold osOf at ho
      obtain ⟨z, hz, rfl⟩ := List.mem_map.1 ho
      exact good_isOp hgood z hz)]
    have h1 := (fits_zero EF.out).2.2.2.1
    rw [takes_sum hgood (by have := NX.out; have := BX.out; omega), ← SU.1] at h1
    have := N1.out
    omega)
  have EQ : Hid (eachC l (osOf x) (clsOf d) = app l (units (osOf x)) (clsOf d)) := Lib.hid (each_app l (osOf x) (clsOf d) (fun o ho => by
      unfold osOf at ho
      obtain ⟨z, hz, rfl⟩ := List.mem_map.1 ho
      exact good_isOp hgood z hz))
  have NB : Hid ((eachC l (osOf x) (clsOf d)).length ≤ 1000000000) := Lib.hid (by
    have h1 := (fits_zero EF.out).2.2.2.1
    have hbx : x.length ≤ 1048576 := by have := NX.out; have := BX.out; omega
    rw [takes_sum hgood hbx, ← SU.1] at h1
    have h2 := (mayO_zero EO.out).2.2
    rw [makes_sum hgood hbx, ← SU.2] at h2
    have h3 := app_len l (units (osOf x)) (clsOf d) (by have := ND.out; omega)
    have h4 := B1.out
    have h5 := ND.out
    rw [EQ.out]
    omega)
  have MW : Hid (w.heap.size ≤ m) := Lib.hid (by have := Y3.out.size; have := HM.out; omega)
  clear hgood SU
  gi_wp2
  refine range_grow (Bd := m + 1 + 1) (wz := w3) (N := (eachC l (osOf x) (clsOf d)).length) (all := eachC l (osOf x) (clsOf d)) (G0 := fun k => k = m ∨ wb (.slice none 0 0) = some k) (gf := 182)
    (lb := #[.pointer (some ⟨m + 1 + 2, 0, none⟩), .pointer (some ⟨m + 1 + 1, 0, none⟩), .pointer (some ⟨m + 1, 0, none⟩)]) rfl (fun args w => by rfl) rfl (ApI w3 m) ?_ ?_ ?_ (by have := S4.out; omega)
    (fun z b => { tmps := #[Value.pointer (some { block := sc, off := 0 }), Value.slice A1 n1 c1, Value.slice Ax nx cx,
          Value.int IntKind.i64 most, undef, undef, undef, undef, Value.slice none 0 0, Value.int IntKind.i64 0,
          Value.int IntKind.i64 0, Value.int IntKind.i64 0, Value.pointer (some { block := m, off := 0 }),
          Value.pointer (some ⟨b, 0, none⟩), Value.pointer (some { block := sc, off := 0 }), Value.slice Ax nx cx, Value.int IntKind.i64 0,
          Value.int IntKind.i64 0, Value.bool false, undef, Value.pointer (some { block := sc, off := 0 }),
          Value.slice A1 n1 c1, Value.int IntKind.i64 0, Value.bool false,
          Value.pointer (some { block := sc, off := 0 }), Value.slice Ax nx cx, Value.slice A1 n1 c1,
          Value.int IntKind.i64 (n1 : Int), Value.int IntKind.i64 most, Value.int IntKind.i64 0, Value.int IntKind.i64 0,
          Value.bool false, undef, Value.pointer (some { block := sc, off := 0 }), Value.slice A1 n1 c1,
          Value.slice Ax nx cx,
          Value.func (Fn.func 182) #[]
            #[Value.pointer (some { block := m + 1 + 2, off := 0 }),
              Value.pointer (some { block := m + 1 + 1, off := 0 }), Value.pointer (some { block := m + 1, off := 0 })],
          .agg #[.int .i32 z.c.r, .slice z.As z.c.s.length z.cs], undef, undef, undef, undef, undef], defers := [] })
    (fun z => .cells #[.int .i32 z.c.r, .slice z.As z.c.s.length z.cs] 63) ?_ ?_ ?_ ?_
  · intro p G A B hI hg
    rw [S4.out] at hg
    exact hI.keep (by rw [HM.out]; exact Nat.le_refl _) hg
  · intro p G A hI k hk
    obtain ⟨h1, h2⟩ := hI.foot (by rw [HM.out]; exact Nat.le_refl _) k hk
    rw [S4.out]
    omega
  · refine ⟨.slice none 0 0, [], HB.out.1, rfl, Ow.nil _ _, ?_, by rw [HM.out]; exact YO.out, fun k => Iff.rfl⟩
    intro z hz
    cases hz
  · intro k z W K hK
    have e : ∀ (T : Array Value) (V : Value), ((#[37] : Array Tmp).zip #[V]).foldl (fun (t : Array Value) (p, v) => t.setIfInBounds p v) T = T.setIfInBounds 37 V := fun T V => by simp
    rw [e]
    gi_wp2
    exact hK
  · intro k p G z b W hI hzg hlen hsz hb
    obtain ⟨v, L, hbx, hL, hown, hparts, hy, hG⟩ := hI
    have hb : W.heap[b]? = some (.cells #[.int .i32 z.c.r, .slice z.As z.c.s.length z.cs] 63 (0, 0)) := hb
    have cb := box_1 hbx
    obtain ⟨t0, t1⟩ := box_cl hb
    have hLn : L.length = p.length := by rw [← hL, clsOf_len]
    have HLN : Hid (L.length ≤ 1000000000) := Lib.hid (by have := NB.out; omega)
    have HSZ : Hid (m + 6 ≤ W.heap.size) := Lib.hid (by have := S4.out; omega)
    have hzo : ∀ k, wb (.slice z.As z.c.s.length z.cs) = some k → ¬ Un2 G (m + 4) k ∧ k ≠ m + 2 := fun k hk => by have h := hzg.off k hk; rw [S4.out] at h; exact h
    have HZO := Lib.hid hzo
    have HZG := Lib.hid hzg.ow
    have ya := ext_alloc W (.cells #[.int .i32 z.c.r, .slice z.As z.c.s.length z.cs] 63)
    clear hzo hzg hLn hb
    gi_wp2_with (first
      | (gi_at_builtin; refine app_csIn (m := [z]) (base := m + 6) rfl (.tmp 38) (.tmp 40) rfl rfl (hown.alloc _) _ _ 1 1 rfl rfl (by exact rd_one_at (enc := ClS.enc) (size := 2) _ _ z rfl (by simp)) (by have := HLN.out; simp only [List.length_singleton]; omega) (by have := HSZ.out; simp; omega) ?_
         intro v' w9 hown' hgr hv'
         obtain ⟨A9, c9, hv9, _, _⟩ := hown'.form
         subst hv9
         obtain ⟨hb9, HAP⟩ := ApI.app (w0 := w3) (p := p) (G := G) (by rw [HM.out]; exact Nat.le_refl _) hbx hL hown hparts hy hG HZG.out HZO.out HSZ.out ya hgr hown' hv'
         have cb9 := box_1 hb9
         have fb9 := box_thaw hb9 0))
    simp only [List.length_append, List.length_cons, List.length_nil, Nat.zero_add] at HAP
    exact HAP
  · intro J L W G hJ hyW hJ0 hR
    subst hJ
    rw [S4.out] at hJ0 hR ⊢
    have hW : Below w3.heap.size w3 W := by rw [HM.out]; exact YO.out.trans (hyW.mono (by have := S4.out; omega))
    have hblk : ∀ {k o}, k < m + 4 → w4.heap[k]? = some o → W.heap[k]? = some o := fun hk h => (hyW.block _ (by rw [S4.out]; exact hk)).trans h
    refine each1_in (n - 1) (m + 4 + 1) (m + 1) (m + 1 + 1) (m + 1 + 2) sc l A1 Ax n1 c1 nx cx d x w3 W (JL (ApI w3 m) (m + 4) L) ?_ ?_ (fun k p G z W h1 h2 h3 => hR k p G z W h1 h2 h3) N1.out NX.out K1.out (by have := B1.out; omega) BX.out (H1.out.ext Y3.out) (HX.out.ext Y3.out) (HS.out.ext Y3.out)
      (fun z hz => ⟨(HCS.out z hz).1, HCAP.out z hz⟩) (fun o ho => ⟨good_isOp HG0.out o ho, HOP.out o ho⟩) TK.out hW (hblk (by omega) HB.out.2.1) (hblk (by omega) HB.out.2.2.1) (hblk (by omega) HB.out.2.2.2) (by rw [HM.out]; omega) (by rw [HM.out]; omega) (by rw [HM.out]; omega) (by omega) (by omega) G hJ0
    · rintro p G A B ⟨G0, hi, hG, hl, hk⟩ hg
      have hg' : Grow A (fun k => k = m + 4 ∨ k = m + 4 + 1 ∨ k = m + 2) B (fun k => k = m + 4 ∨ k = m + 4 + 1 ∨ k = m + 2) := ⟨hg.os, hg.tape, hg.output, hg.size, fun j hj hn => hg.block j hj (fun e => hn (.inr (.inr e))), fun k hk => .inl hk⟩
      exact ⟨G0, hi.keep (by rw [HM.out]; exact Nat.le_refl _) hg', hG, (hg.block _ (lt_of_some hl) (by omega)).trans hl, (hg.block _ (lt_of_some hk) (by omega)).trans hk⟩
    · rintro p G A ⟨G0, hi, hG, hl, hk⟩ k hkG
      rw [HM.out]
      rcases (hG k).1 hkG with h1 | h1 | h1
      · have := hi.foot (by rw [HM.out]; exact Nat.le_refl _) k h1
        omega
      · have := lt_of_some hk; omega
      · have := lt_of_some hl; omega
  · intro G W hI hK
    obtain ⟨v, L, hbx, hL, hown, hparts, hy, hG⟩ := hI
    have cb := box_1 hbx
    rw [S4.out] at hK
    obtain ⟨A, c, hv, hc1, hc2⟩ := hown.form
    subst hv
    have HBX := Lib.hid hbx
    have HOWN := Lib.hid hown
    have HPARTS := Lib.hid hparts
    have HLL := Lib.hid (hL.trans EQ.out)
    have HY := Lib.hid hy
    clear hL hown hparts hbx hG
    gi_wp2
    refine ⟨by simp, .inl ⟨_, _, rfl, run_takeDeferred (by rw [S4.out]; exact hK), ?_⟩⟩
    rw [S4.out]
    refine ⟨.tuple #[.slice A L.length c, .int .i64 0], (by simp [results, Tryz.results38, go_sem]), ?_, .inr ⟨zero_applyN ED.out (by rw [ND.out]; exact EF.out), A, c, L, rfl, HLL.out, ?_, ?_⟩⟩
    · exact (Y3.out.trans (HY.out.mono (by have := MW.out; have := HM.out; omega))).trans ((grow_putObj (F := fun k => k = m + 4) _ rfl).below (fun k hk => by have := MW.out; omega) (by have := (Y3.out.trans (HY.out.mono (by have := MW.out; have := HM.out; omega))).size; exact this))
    · exact (HOWN.out.keep fun k hk => (grow_putObj (F := fun k => k = m + 4) _ rfl).block k (HOWN.out.wb_lt k hk).2 (by have := (HOWN.out.wb_lt k hk).1; omega)).base_le (by have := MW.out; omega)
    · intro z hz
      obtain ⟨⟨h1, h2⟩, h3⟩ := HPARTS.out z hz
      exact ⟨(h1.keep fun k hk => (grow_putObj (F := fun k => k = m + 4) _ rfl).block k (h1.wb_lt k hk).2 (h3 k hk).2.2.1).base_le (by have := MW.out; have := HM.out; omega), h2⟩
end Go.Proofs.YtbdkbfoplpociaaGreatDoor
namespace Go.Proofs.YtbdkbfoplpociaaGreatDoor
set_option linter.unusedVariables false
set_option linter.unusedSimpArgs false

theorem trim_pre (us : List Un) : ∃ k, us = trim us ++ List.replicate k (.ret []) := by
  induction us with
  | nil => exact ⟨0, rfl⟩
  | cons u us ih =>
    obtain ⟨k, hk⟩ := ih
    rw [trim]
    cases ht : trim us with
    | nil =>
      rw [ht, List.nil_append] at hk
      simp only
      by_cases hu : u = .ret []
      · rw [if_pos hu]; exact ⟨k + 1, by rw [hu, List.replicate_succ, List.nil_append, ← hk]⟩
      · rw [if_neg hu]; exact ⟨k, by rw [← hk]; rfl⟩
    | cons v vs =>
      rw [ht] at hk
      exact ⟨k, by simp only [List.cons_append]; rw [List.cons_append] at hk; rw [← hk]⟩
theorem cn_all {P : Un → Prop} (hd : P .del) : ∀ (us I : List Un) (g : Nat), (∀ u ∈ I, P u) → (∀ u ∈ us, P u) → ∀ u ∈ cn us I g, P u
  | [], I, g, hI, _ => fun u hu => by
    rcases List.mem_append.1 hu with hu | hu
    · exact hI u hu
    · rw [(List.mem_replicate.1 hu).2]; exact hd
  | .ins r s :: us, I, g, hI, hu => by
    have h1 : ∀ u ∈ I ++ [Un.ins r s], P u := fun u h => by
      rcases List.mem_append.1 h with h | h
      · exact hI u h
      · simp at h; subst h; exact hu _ (by simp)
    rw [cn]
    exact cn_all hd us (I ++ [.ins r s]) g h1 (fun u h => hu u (List.mem_cons_of_mem _ h))
  | .del :: us, I, g, hI, hu => by
    rw [cn]
    exact cn_all hd us I (g + 1) hI (fun u h => hu u (List.mem_cons_of_mem _ h))
  | .ret p :: us, I, g, hI, hu => fun u h => by
    rw [cn] at h
    rcases List.mem_append.1 h with h | h
    · rcases List.mem_append.1 h with h | h
      · exact hI u h
      · rw [(List.mem_replicate.1 h).2]; exact hd
    · rcases List.mem_cons.1 h with rfl | h
      · exact hu _ (by simp)
      · exact cn_all hd us [] 0 (by simp) (fun u h => hu u (List.mem_cons_of_mem _ h)) u h
theorem fin_ins {n a : Nat} : ∀ {I : List Un}, (∀ u ∈ I, ∃ r s, u = Un.ins r s) → (I ≠ [] → a ≠ n) → finU n a I = true ∧ takesU I = 0
  | [], _, _ => ⟨rfl, rfl⟩
  | u :: I, h, h2 => by
    obtain ⟨r, s, rfl⟩ := h u (by simp)
    have h3 := h2 (by simp)
    obtain ⟨i1, i2⟩ := fin_ins (n := n) (a := a) (I := I) (fun u hu => h u (List.mem_cons_of_mem _ hu)) (fun _ => h3)
    exact ⟨by simp [finU, i1, h3], by rw [takesU_i, i2]⟩
theorem fin_gap {n a g : Nat} {I : List Un} (hI : ∀ u ∈ I, ∃ r s, u = Un.ins r s) (h1 : I ≠ [] → a ≠ n) (h2 : 0 < g → a + g ≠ n) (h3 : a + g ≤ n) : finU n a (I ++ List.replicate g .del) = true ∧ takesU (I ++ List.replicate g .del) = g := by
  obtain ⟨i1, i2⟩ := fin_ins hI h1
  rw [finU_append, i1, i2, takesU_append, i2, takesU_del]
  refine ⟨?_, by omega⟩
  cases g with
  | zero => rfl
  | succ k =>
    rw [Nat.add_zero, Bool.true_and, finU_dels n k a h3]
    exact decide_eq_true (h2 (by omega))
theorem cn_fin (n : Nat) : ∀ (us I : List Un) (g a : Nat), (∀ u ∈ I, ∃ r s, u = Un.ins r s) → (I ≠ [] → a ≠ n) → (0 < g → a + g ≠ n) → a + g + takesU us ≤ n → finU n (a + g) us = true → finU n a (cn us I g) = true
  | [], I, g, a, hI, h1, h2, h3, _ => (fin_gap hI h1 h2 (by simp [takesU] at h3; exact h3)).1
  | .ins r s :: us, I, g, a, hI, h1, h2, h3, h4 => by
    simp only [finU, Bool.and_eq_true, decide_eq_true_eq] at h4
    rw [takesU_i] at h3
    rw [cn]
    exact cn_fin n us (I ++ [.ins r s]) g a (fun u h => by
      rcases List.mem_append.1 h with h | h
      · exact hI u h
      · simp at h; exact ⟨r, s, h⟩) (fun _ => by omega) h2 h3 h4.2
  | .del :: us, I, g, a, hI, h1, h2, h3, h4 => by
    simp only [finU, Bool.and_eq_true, decide_eq_true_eq] at h4
    rw [takesU_d] at h3
    rw [cn]
    exact cn_fin n us I (g + 1) a hI h1 (fun _ => by omega) (by omega) h4.2
  | .ret p :: us, I, g, a, hI, h1, h2, h3, h4 => by
    simp only [finU] at h4
    rw [takesU_r] at h3
    obtain ⟨e1, e2⟩ := fin_gap hI h1 h2 (by omega)
    rw [cn, finU_append, e1, e2, Bool.true_and]
    show finU n (a + g + 1) (cn us [] 0) = true
    exact cn_fin n us [] 0 (a + g + 1) (by simp) (by simp) (by simp) (by omega) h4
theorem fit_nf {l : List Ky} {us : List Un} {n most : Nat} (h : FitU l us n most) : FitU l (nf us) n most := by
  obtain ⟨k, hk⟩ := trim_pre (canon us)
  have hk' : canon us = nf us ++ List.replicate k (.ret []) := hk
  have hc := cn_fin n us [] 0 0 (by simp) (by simp) (by simp) (by have := h.t; omega) h.f
  have ht := canon_takes us
  have hm := canon_makes us
  rw [hk', takesU_append, takesU_ret] at ht
  rw [hk', makesU_append, makesU_ret] at hm
  have e : cn us [] 0 = canon us := rfl
  rw [e, hk', finU_append, Bool.and_eq_true] at hc
  have hall := cn_all (P := vU l) trivial us [] 0 (by simp) h.v
  have h1 := h.t; have h2 := h.m; have h3 := h.tb; have h4 := h.mb
  refine ⟨fun u hu => hall u ?_, by omega, h.n1, h.nm, hc.1, by omega, by omega, by omega⟩
  show u ∈ canon us
  rw [hk']; exact List.mem_append_left _ hu
end Go.Proofs.YtbdkbfoplpociaaGreatDoor
namespace Go.Proofs.YtbdkbfoplpociaaGreatDoor
open Go.RowKit
set_option linter.unusedVariables false
set_option linter.unusedSimpArgs false

def delS (g : Int) : OpS := ⟨opD g, none, 0, none, 0, none, 0⟩
def gapS (I : List OpS) (g : Int) : List OpS := I ++ (if 0 < g then [delS g] else [])
theorem gapS_os (I : List OpS) (g : Int) : osOf (gapS I g) = osOf I ++ (if 0 < g then [opD g] else []) := by
  unfold gapS osOf
  split <;> simp [delS]
theorem gapS_len (I : List OpS) (g : Int) : (gapS I g).length ≤ I.length + 1 := by unfold gapS; split <;> simp

set_option maxRecDepth 100000 in
set_option maxHeartbeats 800000 in
theorem gap_any (b : Nat) (vd : Value) (Ai : Option Addr) (ni ci : Nat) (g : Int) (I : List OpS) (w : World) (h1 : w.heap[b]? = some (.cells #[vd, .slice Ai ni ci, .int .i64 g] 206 (0, 0)))
    (hn : ni = I.length) (hr : RdOs w w.heap.size Ai I) (hb : ni ≤ 10000000) :
    Calls Tryz.prog 175 #[.pointer (some ⟨b, 0, none⟩)] w (NewOs (gapS I g) w) := by
  have N := Lib.hid hn
  have H1 := Lib.hid h1
  obtain ⟨c0, c1, c2⟩ := box_3 h1
  clear hn h1
  go_enter Tryz.func175, Tryz.ntmps175
  go_wp2_with (go_at_call 234; refine Hid.out ?_)
  refine Lib.hid ?_
  refine (cloneOs_any Ai ni ci I w N.out hr (by omega)).mono ?_
  rintro e w1 ⟨A1, k1, rfl, ho, y⟩
  obtain ⟨d0, d1, d2⟩ := box_3 ((y.block b (lt_of_some H1.out)).trans H1.out)
  have HO := Lib.hid ho
  clear ho c0 c1 c2
  by_cases hg : 0 < g
  · have e1 : gapS I g = I ++ [delS g] := by unfold gapS; rw [if_pos hg]
    have E1 := Lib.hid e1
    clear e1
    go_wp2_with (at_builtin; refine app_os (m := [delS g]) rfl (.tmp 14) (.tmp 20) rfl rfl (by exact HO.out.alloc _) _ _ 1 1 rfl rfl (by exact rd_one (enc := OpS.enc) (size := 5) _ _ (delS g) rfl) (by have := N.out; simp only [List.length_singleton]; omega) (by exact Nat.le_trans y.size (le_alloc _ _)) ?_; intro v' w' hown' hgr hv')
    have s1 := below_app (y.alloc y.size _) (by exact Nat.le_trans y.size (le_alloc _ _)) (HO.out.alloc _) (Nat.le_refl _) hgr
    rw [← E1.out] at hown'
    obtain ⟨A', c', rfl, _, _⟩ := hown'.form
    have HOW := Lib.hid hown'
    clear hown'
    go_ret
    exact ⟨A', c', rfl, HOW.out, s1⟩
  · have e1 : gapS I g = I := by unfold gapS; rw [if_neg hg]; simp
    have E1 := Lib.hid e1
    clear e1
    go_wp2_with (fail)
    go_ret
    unfold NewOs
    rw [E1.out]
    exact ⟨A1, k1, rfl, HO.out, y⟩
end Go.Proofs.YtbdkbfoplpociaaGreatDoor
