/- Merged texts: ApplyW, FitNf, MkIns, Tell, MkFlat, OpsCopy, MkOps, Delta, FragLaw, MkB, Made, OwLit. -/
import Derived.Test.YtfnkjcodcoehcaaGreatDoorR21
import Derived.Test.YtfnkjcodcoehcaaGreatDoorR15
import Derived.Test.YtfnkjcodcoehcaaGreatDoorR17
import Derived.Deep.DeepMust
import Derived.Test.YtfnkjcodcoehcaaGreatDoorR18
import Derived.Test.YtfnkjcodcoehcaaGreatDoorR14
import Derived.Test.YtfnkjcodcoehcaaGreatDoorR9
import Derived.Test.YtfnkjcodcoehcaaGreatDoorR19
import Derived.Test.YtfnkjcodcoehcaaGreatDoorR11
namespace Go.Proofs.YtfnkjcodcoehcaaGreatDoor
open Go.RowKit Go.Shelf
set_option linter.unusedVariables false
set_option linter.unusedSimpArgs false
attribute [local go_sem] Oper.semAt_some

/-- apply.each answers its iterator; its three boxes are new -/
def EachNew (sc : Nat) (A1 Ax : Option Addr) (n1 c1 nx cx : Nat) (w : World) (e : Ending) (w' : World) : Prop :=
  e = .returned (.func (.func 164) #[] #[.pointer (some ⟨w.heap.size + 2, 0, none⟩), .pointer (some ⟨w.heap.size + 1, 0, none⟩), .pointer (some ⟨w.heap.size, 0, none⟩)]) ∧ Below w.heap.size w w' ∧ w'.heap.size = w.heap.size + 3 ∧
    w'.heap[w.heap.size]? = some (.cells #[.pointer (some ⟨sc, 0, none⟩)] 26 (0, 0)) ∧ w'.heap[w.heap.size + 1]? = some (.cells #[.slice A1 n1 c1] 23 (0, 0)) ∧ w'.heap[w.heap.size + 2]? = some (.cells #[.slice Ax nx cx] 44 (0, 0))
set_option maxRecDepth 100000 in
set_option maxHeartbeats 800000 in
theorem each_any (sc : Nat) (A1 Ax : Option Addr) (n1 c1 nx cx : Nat) (w : World) :
    Calls Tryz.prog 90 #[.pointer (some ⟨sc, 0, none⟩), .slice A1 n1 c1, .slice Ax nx cx] w (EachNew sc A1 Ax n1 c1 nx cx w) := by
  go_enter Tryz.func90, Tryz.ntmps90
  go_wp2_with (fail)
  go_ret
  have ya := ext_alloc w (.cells #[.pointer (some ⟨sc, 0, none⟩)] 26)
  have yb := ext_alloc (w.alloc (.cells #[.pointer (some ⟨sc, 0, none⟩)] 26)) (.cells #[.slice A1 n1 c1] 23)
  have yc := ext_alloc ((w.alloc (.cells #[.pointer (some ⟨sc, 0, none⟩)] 26)).alloc (.cells #[.slice A1 n1 c1] 23)) (.cells #[.slice Ax nx cx] 44)
  have ha := heap_alloc_new w (.cells #[.pointer (some ⟨sc, 0, none⟩)] 26)
  have hb := heap_alloc_new (w.alloc (.cells #[.pointer (some ⟨sc, 0, none⟩)] 26)) (.cells #[.slice A1 n1 c1] 23)
  have hc := heap_alloc_new ((w.alloc (.cells #[.pointer (some ⟨sc, 0, none⟩)] 26)).alloc (.cells #[.slice A1 n1 c1] 23)) (.cells #[.slice Ax nx cx] 44)
  refine ⟨?_, ext_trans ya (ext_trans yb yc), by simp, (yc.block _ (lt_of_some ((yb.block _ (lt_of_some ha)).trans ha))).trans ((yb.block _ (lt_of_some ha)).trans ha), ?_, ?_⟩
  · exact rfl
  · have h := (yc.block _ (lt_of_some hb)).trans hb
    simpa using h
  · simpa using hc

/-- what apply.Apply answers -/
def ApplyOut (l : List Ky) (x : List OpS) (d : List Cl) (most : Int) (w : World) (e : Ending) (w' : World) : Prop :=
  Below w.heap.size w w' ∧ ((applyN l x d most ≠ 0 ∧ e = .returned (.tuple #[.slice none 0 0, .int .i64 (applyN l x d most)])) ∨
    (applyN l x d most = 0 ∧ ∃ A c L, e = .returned (.tuple #[.slice A L.length c, .int .i64 0]) ∧ clsOf L = app l (units (osOf x)) d ∧ OwCs w' w.heap.size (.slice A L.length c) L ∧ ∀ z ∈ L, PartC w' w.heap.size (.slice A L.length c) z))
set_option maxRecDepth 100000 in
set_option maxHeartbeats 3200000 in
theorem applyD_any (sc : Nat) (l : List Ky) (A1 Ax : Option Addr) (n1 c1 nx cx : Nat) (d : List ClS) (x : List OpS) (most : Int) (w : World)
    (hn1 : n1 = d.length) (hnx : nx = x.length) (k1 : n1 ≤ c1) (b1 : n1 ≤ 100000) (bx : nx ≤ 1048576) (h1 : RdCl w w.heap.size A1 d) (hx : RdOp w w.heap.size Ax x) (hS : Sch w sc l)
    (hcs : ∀ z ∈ d, z.c.s.length ≤ 100000000 ∧ okVr z.c.s) (hcap : ∀ z ∈ d, z.c.s.length ≤ z.cs ∧ z.cs ≤ maxLen) (hop : ∀ o ∈ x, okOp o.o) (hT : Lib.Utf8Tabs 1 2 w) :
    Calls Tryz.prog 33 #[.pointer (some ⟨sc, 0, none⟩), .slice A1 n1 c1, .slice Ax nx cx, .int .i64 most] w (ApplyOut l x (clsOf d) most w) := by
  obtain ⟨n, _⟩ : ∃ n : Nat, n = n := ⟨0, rfl⟩
  refine (callsIn_wide (n := n)).1 ?_
  refine callsIn_of_wp_marks Tryz.func33 rfl trivial ?_ rfl
  simp only [Tryz.ntmps33, List.size_toArray, List.length_cons, List.length_nil, Nat.reduceAdd, Nat.reduceSub, Array.replicate_succ, Array.replicate_zero, List.push_toArray, List.append_toArray, List.nil_append, List.cons_append]
  have N1 := Lib.hid hn1
  have NX := Lib.hid hnx
  have H1 := Lib.hid h1
  have HX := Lib.hid hx
  have HS := Lib.hid hS
  have HCS := Lib.hid hcs
  have HCAP := Lib.hid hcap
  have HOP := Lib.hid hop
  have HT := Lib.hid hT
  have K1 := Lib.hid k1
  have BX := Lib.hid bx
  have B1 := Lib.hid b1
  have ND : Hid ((clsOf d).length = n1) := Lib.hid (by rw [clsOf_len, hn1])
  clear hn1 hnx h1 hx hS hcs hcap hop hT k1 bx b1
  gi_wp2
  refine ⟨trivial, fun h => (by cases h), (callsIn_wide.2 (mayO_any sc l Ax nx cx x w NX.out HX.out (by have := BX.out; omega) HS.out HOP.out HT.out)).mono ?_⟩
  obtain ⟨eo, heo⟩ : ∃ X, mayO l x = X := ⟨_, rfl⟩
  rw [heo]
  rintro e w1 ⟨rfl, y1⟩
  have EO := Lib.hid heo
  have Y1 := Lib.hid y1
  clear heo y1
  by_cases h0 : eo = 0
  rotate_left
  · have h0' : (eo == 0) = false := beq_eq_false_iff_ne.2 h0
    gi_wp2
    refine ⟨.tuple #[.slice none 0 0, .int .i64 eo], (by simp [results, Tryz.results33, go_sem]), Y1.out, .inl ⟨?_, ?_⟩⟩
    all_goals rw [show applyN l x (clsOf d) most = eo by unfold applyN; rw [EO.out, if_pos h0]]
    exact h0
  subst h0
  gi_wp2
  refine ⟨trivial, fun h => (by cases h), (callsIn_wide.2 (mayCells_any sc l A1 n1 c1 d w1 N1.out (H1.out.ext Y1.out) B1.out (HS.out.ext Y1.out) HCS.out (Utf8Tabs_below HT.out Y1.out))).mono ?_⟩
  obtain ⟨ed, hed⟩ : ∃ X, mayD l (clsOf d) = X := ⟨_, rfl⟩
  rw [hed]
  rintro e w2 ⟨rfl, y2⟩
  have ED := Lib.hid hed
  have Y2 := Lib.hid (ext_trans Y1.out y2)
  clear hed y2
  by_cases h0 : ed = 0
  rotate_left
  · have h0' : (ed == 0) = false := beq_eq_false_iff_ne.2 h0
    gi_wp2
    refine ⟨.tuple #[.slice none 0 0, .int .i64 3], (by simp [results, Tryz.results33, go_sem]), Y2.out, .inl ⟨?_, ?_⟩⟩
    all_goals rw [show applyN l x (clsOf d) most = 3 by unfold applyN; rw [EO.out, ED.out, if_neg (by decide), if_pos h0]]
    decide
  subst h0
  gi_wp2
  refine ⟨trivial, fun h => (by cases h), (callsIn_wide.2 (fitsO_any sc l Ax nx cx x n1 most w2 NX.out (HX.out.ext Y2.out) (by have := BX.out; omega) (HS.out.ext Y2.out) HOP.out (Utf8Tabs_below HT.out Y2.out))).mono ?_⟩
  obtain ⟨ef, hef⟩ : ∃ X, fitsO l x n1 most = X := ⟨_, rfl⟩
  rw [hef]
  rintro e w3 ⟨rfl, y3⟩
  have EF := Lib.hid hef
  have Y3 := Lib.hid (ext_trans Y2.out y3)
  clear hef y3
  by_cases h0 : ef = 0
  rotate_left
  · have h0' : (ef == 0) = false := beq_eq_false_iff_ne.2 h0
    gi_wp2
    refine ⟨.tuple #[.slice none 0 0, .int .i64 ef], (by simp [results, Tryz.results33, go_sem]), Y3.out, .inl ⟨?_, ?_⟩⟩
    all_goals rw [show applyN l x (clsOf d) most = ef by unfold applyN; rw [EO.out, ED.out, if_neg (by decide), if_neg (by decide), ND.out, EF.out]]
    exact h0
  subst h0
  gi_wp2
  obtain ⟨m, hm⟩ : ∃ m, w3.heap.size = m := ⟨_, rfl⟩
  have hz : (w3.alloc (.cells #[.slice none 0 0] 23)).heap.size = m + 1 := by rw [World.size_alloc, hm]
  have ho := heap_alloc_new w3 (.cells #[.slice none 0 0] 23)
  have yo := ext_alloc w3 (.cells #[.slice none 0 0] 23)
  refine ⟨trivial, fun h => (by cases h), (callsIn_wide.2 (each_any sc A1 Ax n1 c1 nx cx _)).mono ?_⟩
  unfold EachNew
  rw [hz]
  rintro e w4 ⟨rfl, y4, s4, hb1, hb2, hb3⟩
  rw [hm] at ho yo
  have hout := (y4.block m (by omega)).trans ho
  have YO : Hid (Below m w3 w4) := Lib.hid (yo.trans (y4.mono (by omega)))
  have S4 : Hid (w4.heap.size = m + 4) := Lib.hid s4
  have HM := Lib.hid hm
  have HB := Lib.hid (And.intro hout (And.intro hb1 (And.intro hb2 hb3)))
  rw [hm]
  clear ho yo y4 s4 hb1 hb2 hb3 hout hz hm
  have hgood := (mayO_zero EO.out).1
  have HG0 := Lib.hid hgood
  have SU := sums_units x (good_isOp hgood)
  have TK : Hid (tks (osOf x) ≤ d.length) := Lib.hid (by
    rw [tks_units (fun o ho => by
      unfold osOf at ho
      obtain ⟨z, hz, rfl⟩ := List.mem_map.1 ho
      exact good_isOp hgood z hz)]
    have h1 := (fits_zero EF.out).2.2.2.1
    rw [takes_sum hgood (by have := NX.out; have := BX.out; omega), ← SU.1] at h1
    have := N1.out
    omega)
  have EQ : Hid (eachC l (osOf x) (clsOf d) = app l (units (osOf x)) (clsOf d)) := Lib.hid (each_app l (osOf x) (clsOf d) (fun o ho => by
      unfold osOf at ho
      obtain ⟨z, hz, rfl⟩ := List.mem_map.1 ho
      exact good_isOp hgood z hz))
  have NB : Hid ((eachC l (osOf x) (clsOf d)).length ≤ 1000000000) := Lib.hid (by
    have h1 := (fits_zero EF.out).2.2.2.1
    have hbx : x.length ≤ 1048576 := by have := NX.out; have := BX.out; omega
    rw [takes_sum hgood hbx, ← SU.1] at h1
    have h2 := (mayO_zero EO.out).2.2
    rw [makes_sum hgood hbx, ← SU.2] at h2
    have h3 := app_len l (units (osOf x)) (clsOf d) (by have := ND.out; omega)
    have h4 := B1.out
    have h5 := ND.out
    rw [EQ.out]
    omega)
  have MW : Hid (w.heap.size ≤ m) := Lib.hid (by have := Y3.out.size; have := HM.out; omega)
  clear hgood SU
  gi_wp2
  refine range_grow (Bd := m + 1 + 1) (wz := w3) (N := (eachC l (osOf x) (clsOf d)).length) (all := eachC l (osOf x) (clsOf d)) (G0 := fun k => k = m ∨ wb (.slice none 0 0) = some k) (gf := 164)
    (lb := #[.pointer (some ⟨m + 1 + 2, 0, none⟩), .pointer (some ⟨m + 1 + 1, 0, none⟩), .pointer (some ⟨m + 1, 0, none⟩)]) rfl (fun args w => by rfl) rfl (ApI w3 m) ?_ ?_ ?_ (by have := S4.out; omega)
    (fun z b => { tmps := #[Value.pointer (some { block := sc, off := 0 }), Value.slice A1 n1 c1, Value.slice Ax nx cx,
          Value.int IntKind.i64 most, undef, undef, undef, undef, Value.slice none 0 0, Value.int IntKind.i64 0,
          Value.int IntKind.i64 0, Value.int IntKind.i64 0, Value.pointer (some { block := m, off := 0 }),
          Value.pointer (some ⟨b, 0, none⟩), Value.pointer (some { block := sc, off := 0 }), Value.slice Ax nx cx, Value.int IntKind.i64 0,
          Value.int IntKind.i64 0, Value.bool false, undef, Value.pointer (some { block := sc, off := 0 }),
          Value.slice A1 n1 c1, Value.int IntKind.i64 0, Value.bool false,
          Value.pointer (some { block := sc, off := 0 }), Value.slice Ax nx cx, Value.slice A1 n1 c1,
          Value.int IntKind.i64 (n1 : Int), Value.int IntKind.i64 most, Value.int IntKind.i64 0, Value.int IntKind.i64 0,
          Value.bool false, undef, Value.pointer (some { block := sc, off := 0 }), Value.slice A1 n1 c1,
          Value.slice Ax nx cx,
          Value.func (Fn.func 164) #[]
            #[Value.pointer (some { block := m + 1 + 2, off := 0 }),
              Value.pointer (some { block := m + 1 + 1, off := 0 }), Value.pointer (some { block := m + 1, off := 0 })],
          .agg #[.int .i32 z.c.r, .slice z.As z.c.s.length z.cs], undef, undef, undef, undef, undef], defers := [] })
    (fun z => .cells #[.int .i32 z.c.r, .slice z.As z.c.s.length z.cs] 38) ?_ ?_ ?_ ?_
  · intro p G A B hI hg
    rw [S4.out] at hg
    exact hI.keep (by rw [HM.out]; exact Nat.le_refl _) hg
  · intro p G A hI k hk
    obtain ⟨h1, h2⟩ := hI.foot (by rw [HM.out]; exact Nat.le_refl _) k hk
    rw [S4.out]
    omega
  · refine ⟨.slice none 0 0, [], HB.out.1, rfl, Ow.nil _ _, ?_, by rw [HM.out]; exact YO.out, fun k => Iff.rfl⟩
    intro z hz
    cases hz
  · intro k z W K hK
    have e : ∀ (T : Array Value) (V : Value), ((#[37] : Array Tmp).zip #[V]).foldl (fun (t : Array Value) (p, v) => t.setIfInBounds p v) T = T.setIfInBounds 37 V := fun T V => by simp
    rw [e]
    gi_wp2
    exact hK
  · intro k p G z b W hI hzg hlen hsz hb
    obtain ⟨v, L, hbx, hL, hown, hparts, hy, hG⟩ := hI
    have hb : W.heap[b]? = some (.cells #[.int .i32 z.c.r, .slice z.As z.c.s.length z.cs] 38 (0, 0)) := hb
    have cb := box_1 hbx
    obtain ⟨t0, t1⟩ := box_cl hb
    have hLn : L.length = p.length := by rw [← hL, clsOf_len]
    have HLN : Hid (L.length ≤ 1000000000) := Lib.hid (by have := NB.out; omega)
    have HSZ : Hid (m + 6 ≤ W.heap.size) := Lib.hid (by have := S4.out; omega)
    have hzo : ∀ k, wb (.slice z.As z.c.s.length z.cs) = some k → ¬ Un2 G (m + 4) k ∧ k ≠ m + 2 := fun k hk => by have h := hzg.off k hk; rw [S4.out] at h; exact h
    have HZO := Lib.hid hzo
    have HZG := Lib.hid hzg.ow
    have ya := ext_alloc W (.cells #[.int .i32 z.c.r, .slice z.As z.c.s.length z.cs] 38)
    clear hzo hzg hLn hb
    gi_wp2_with (first
      | (gi_at_builtin; refine app_csIn (m := [z]) (base := m + 6) rfl (.tmp 38) (.tmp 40) rfl rfl (hown.alloc _) _ _ 1 1 rfl rfl (by exact rd_one_at (enc := ClS.enc) (size := 2) _ _ z rfl (by simp)) (by have := HLN.out; simp only [List.length_singleton]; omega) (by have := HSZ.out; simp; omega) ?_
         intro v' w9 hown' hgr hv'
         obtain ⟨A9, c9, hv9, _, _⟩ := hown'.form
         subst hv9
         obtain ⟨hb9, HAP⟩ := ApI.app (w0 := w3) (p := p) (G := G) (by rw [HM.out]; exact Nat.le_refl _) hbx hL hown hparts hy hG HZG.out HZO.out HSZ.out ya hgr hown' hv'
         have cb9 := box_1 hb9
         have fb9 := box_thaw hb9 0))
    simp only [List.length_append, List.length_cons, List.length_nil, Nat.zero_add] at HAP
    exact HAP
  · intro J L W G hJ hyW hJ0 hR
    subst hJ
    rw [S4.out] at hJ0 hR ⊢
    have hW : Below w3.heap.size w3 W := by rw [HM.out]; exact YO.out.trans (hyW.mono (by have := S4.out; omega))
    have hblk : ∀ {k o}, k < m + 4 → w4.heap[k]? = some o → W.heap[k]? = some o := fun hk h => (hyW.block _ (by rw [S4.out]; exact hk)).trans h
    refine each1_in (n - 1) (m + 4 + 1) (m + 1) (m + 1 + 1) (m + 1 + 2) sc l A1 Ax n1 c1 nx cx d x w3 W (JL (ApI w3 m) (m + 4) L) ?_ ?_ (fun k p G z W h1 h2 h3 => hR k p G z W h1 h2 h3) N1.out NX.out K1.out (by have := B1.out; omega) BX.out (H1.out.ext Y3.out) (HX.out.ext Y3.out) (HS.out.ext Y3.out)
      (fun z hz => ⟨(HCS.out z hz).1, HCAP.out z hz⟩) (fun o ho => ⟨good_isOp HG0.out o ho, HOP.out o ho⟩) TK.out hW (hblk (by omega) HB.out.2.1) (hblk (by omega) HB.out.2.2.1) (hblk (by omega) HB.out.2.2.2) (by rw [HM.out]; omega) (by rw [HM.out]; omega) (by rw [HM.out]; omega) (by omega) (by omega) G hJ0
    · rintro p G A B ⟨G0, hi, hG, hl, hk⟩ hg
      have hg' : Grow A (fun k => k = m + 4 ∨ k = m + 4 + 1 ∨ k = m + 2) B (fun k => k = m + 4 ∨ k = m + 4 + 1 ∨ k = m + 2) := ⟨hg.os, hg.tape, hg.output, hg.size, fun j hj hn => hg.block j hj (fun e => hn (.inr (.inr e))), fun k hk => .inl hk⟩
      exact ⟨G0, hi.keep (by rw [HM.out]; exact Nat.le_refl _) hg', hG, (hg.block _ (lt_of_some hl) (by omega)).trans hl, (hg.block _ (lt_of_some hk) (by omega)).trans hk⟩
    · rintro p G A ⟨G0, hi, hG, hl, hk⟩ k hkG
      rw [HM.out]
      rcases (hG k).1 hkG with h1 | h1 | h1
      · have := hi.foot (by rw [HM.out]; exact Nat.le_refl _) k h1
        omega
      · have := lt_of_some hk; omega
      · have := lt_of_some hl; omega
  · intro G W hI hK
    obtain ⟨v, L, hbx, hL, hown, hparts, hy, hG⟩ := hI
    have cb := box_1 hbx
    rw [S4.out] at hK
    obtain ⟨A, c, hv, hc1, hc2⟩ := hown.form
    subst hv
    have HBX := Lib.hid hbx
    have HOWN := Lib.hid hown
    have HPARTS := Lib.hid hparts
    have HLL := Lib.hid (hL.trans EQ.out)
    have HY := Lib.hid hy
    clear hL hown hparts hbx hG
    gi_wp2
    refine ⟨by simp, .inl ⟨_, _, rfl, run_takeDeferred (by rw [S4.out]; exact hK), ?_⟩⟩
    rw [S4.out]
    refine ⟨.tuple #[.slice A L.length c, .int .i64 0], (by simp [results, Tryz.results33, go_sem]), ?_, .inr ⟨zero_applyN ED.out (by rw [ND.out]; exact EF.out), A, c, L, rfl, HLL.out, ?_, ?_⟩⟩
    · exact (Y3.out.trans (HY.out.mono (by have := MW.out; have := HM.out; omega))).trans ((grow_putObj (F := fun k => k = m + 4) _ rfl).below (fun k hk => by have := MW.out; omega) (by have := (Y3.out.trans (HY.out.mono (by have := MW.out; have := HM.out; omega))).size; exact this))
    · exact (HOWN.out.keep fun k hk => (grow_putObj (F := fun k => k = m + 4) _ rfl).block k (HOWN.out.wb_lt k hk).2 (by have := (HOWN.out.wb_lt k hk).1; omega)).base_le (by have := MW.out; omega)
    · intro z hz
      obtain ⟨⟨h1, h2⟩, h3⟩ := HPARTS.out z hz
      exact ⟨(h1.keep fun k hk => (grow_putObj (F := fun k => k = m + 4) _ rfl).block k (h1.wb_lt k hk).2 (h3 k hk).2.2.1).base_le (by have := MW.out; have := HM.out; omega), h2⟩
end Go.Proofs.YtfnkjcodcoehcaaGreatDoor
namespace Go.Proofs.YtfnkjcodcoehcaaGreatDoor
set_option linter.unusedVariables false
set_option linter.unusedSimpArgs false

theorem trim_pre (us : List Un) : ∃ k, us = trim us ++ List.replicate k (.ret []) := by
  induction us with
  | nil => exact ⟨0, rfl⟩
  | cons u us ih =>
    obtain ⟨k, hk⟩ := ih
    rw [trim]
    cases ht : trim us with
    | nil =>
      rw [ht, List.nil_append] at hk
      simp only
      by_cases hu : u = .ret []
      · rw [if_pos hu]; exact ⟨k + 1, by rw [hu, List.replicate_succ, List.nil_append, ← hk]⟩
      · rw [if_neg hu]; exact ⟨k, by rw [← hk]; rfl⟩
    | cons v vs =>
      rw [ht] at hk
      exact ⟨k, by simp only [List.cons_append]; rw [List.cons_append] at hk; rw [← hk]⟩
theorem cn_all {P : Un → Prop} (hd : P .del) : ∀ (us I : List Un) (g : Nat), (∀ u ∈ I, P u) → (∀ u ∈ us, P u) → ∀ u ∈ cn us I g, P u
  | [], I, g, hI, _ => fun u hu => by
    rcases List.mem_append.1 hu with hu | hu
    · exact hI u hu
    · rw [(List.mem_replicate.1 hu).2]; exact hd
  | .ins r s :: us, I, g, hI, hu => by
    have h1 : ∀ u ∈ I ++ [Un.ins r s], P u := fun u h => by
      rcases List.mem_append.1 h with h | h
      · exact hI u h
      · simp at h; subst h; exact hu _ (by simp)
    rw [cn]
    exact cn_all hd us (I ++ [.ins r s]) g h1 (fun u h => hu u (List.mem_cons_of_mem _ h))
  | .del :: us, I, g, hI, hu => by
    rw [cn]
    exact cn_all hd us I (g + 1) hI (fun u h => hu u (List.mem_cons_of_mem _ h))
  | .ret p :: us, I, g, hI, hu => fun u h => by
    rw [cn] at h
    rcases List.mem_append.1 h with h | h
    · rcases List.mem_append.1 h with h | h
      · exact hI u h
      · rw [(List.mem_replicate.1 h).2]; exact hd
    · rcases List.mem_cons.1 h with rfl | h
      · exact hu _ (by simp)
      · exact cn_all hd us [] 0 (by simp) (fun u h => hu u (List.mem_cons_of_mem _ h)) u h
end Go.Proofs.YtfnkjcodcoehcaaGreatDoor
namespace Go.Proofs.YtfnkjcodcoehcaaGreatDoor
open Go.RowKit
set_option linter.unusedVariables false
set_option linter.unusedSimpArgs false

/-- the last insert is no longer written -/
theorem LastF.part {w w' : World} {F G : Nat → Prop} {b : Nat} {vd vi : Value} {x : OpS} (h : LastF w F b vd vi x) (g : Grow w F w' G)
    (hk : ∀ k, wb (.slice x.Ar x.o.r.length x.cr) = some k → w'.heap[k]? = w.heap[k]? ∧ ¬ G k) : PartF w' G x := by
  obtain ⟨e1, e2, e3, e4⟩ := h
  have o' : OwI32 w' 0 (.slice x.Ar x.o.r.length x.cr) x.o.r := e1.keep fun k h => (hk k h).1
  exact ⟨⟨o'.rd encI32_len, o'.offF encI32_len rfl (fun k h => (hk k h).2)⟩, ⟨e3.1.grow g e3.2, e3.2.grow e3.1 g⟩, ⟨e4.1.grow g e4.2, e4.2.grow e4.1 g⟩⟩

end Go.Proofs.YtfnkjcodcoehcaaGreatDoor
namespace Go.Proofs.YtfnkjcodcoehcaaGreatDoor
open Go.RowKit
set_option linter.unusedVariables false
set_option linter.unusedSimpArgs false

/-- how much a maker's inserts hold -/
def InsB (m : Mk) (K : Nat) : Prop := m.ins.length ≤ K ∧ ∀ o ∈ m.ins, o.s.length ≤ 10000000 ∧ o.r.length ≤ K ∧ o.p = []
theorem InsB.insert {m : Mk} {K : Nat} (h : InsB m K) (r : Int) {s : List At} (hs : s.length ≤ 10000000) : InsB (mkInsert m [r] s) (K + 1) := by
  obtain ⟨h1, h2⟩ := h
  unfold mkInsert addI
  rw [if_neg (by simp)]
  have base : ∀ o ∈ m.ins, o.s.length ≤ 10000000 ∧ o.r.length ≤ K + 1 ∧ o.p = [] := fun o ho => ⟨(h2 o ho).1, Nat.le_succ_of_le (h2 o ho).2.1, (h2 o ho).2.2⟩
  have push : InsB { m with ins := m.ins ++ [opI [r] s] } (K + 1) := ⟨by simp; omega, fun o ho => by
    rcases List.mem_append.1 ho with ho | ho
    · exact base o ho
    · simp at ho; subst ho; exact ⟨hs, by simp [opI], rfl⟩⟩
  cases hg : m.ins.getLast? with
  | none => exact push
  | some o =>
    simp only
    by_cases hc : o.s = s
    · rw [if_pos hc]
      have hm := List.mem_of_getLast? hg
      have hpos := List.length_pos_of_mem hm
      refine ⟨by simp; omega, fun x hx => ?_⟩
      rcases List.mem_append.1 hx with hx | hx
      · exact base x ((List.dropLast_sublist _).subset hx)
      · simp at hx; subst hx
        exact ⟨(h2 o hm).1, by have := (h2 o hm).2.1; simp; omega, (h2 o hm).2.2⟩
    · rw [if_neg hc]; exact push
end Go.Proofs.YtfnkjcodcoehcaaGreatDoor
namespace Go.Proofs.YtfnkjcodcoehcaaGreatDoor
open Go.RowKit
set_option linter.unusedVariables false
set_option linter.unusedSimpArgs false

/-- block b holds a maker with L done and nothing behind it -/
def FlatM (w : World) (F : Nat → Prop) (b : Nat) (vd : Value) (L : List OpS) : Prop :=
  w.heap[b]? = some (.cells #[vd, .slice none 0 0, .int .i64 0] 189 (0, 0)) ∧ OwOs w 0 vd L ∧
    (∀ k, F k → k < w.heap.size) ∧ F b ∧ (∀ k, wb vd = some k → F k ∧ k ≠ b) ∧ ∀ x ∈ L, PartF w F x
theorem FlatM.below {w w' : World} {F : Nat → Prop} {b : Nat} {vd : Value} {L : List OpS} (h : FlatM w F b vd L) (y : Below w.heap.size w w') : FlatM w' F b vd L := by
  obtain ⟨h1, h2, h3, h4, h5, h6⟩ := h
  exact ⟨(y.block b (lt_of_some h1)).trans h1, h2.below y (Nat.le_refl _), fun k hk => Nat.lt_of_lt_of_le (h3 k hk) y.size, h4, h5, fun x hx => (h6 x hx).grow (Grow.of y)⟩
end Go.Proofs.YtfnkjcodcoehcaaGreatDoor
namespace Go.Proofs.YtfnkjcodcoehcaaGreatDoor
open Go.RowKit
set_option linter.unusedVariables false
set_option linter.unusedSimpArgs false

/-- the parts of an op are the call's own, and none lies in block g -/
def PartN (w : World) (B g : Nat) (x : OpS) : Prop :=
  (OwI32 w B (.slice x.Ar x.o.r.length x.cr) x.o.r ∧ wb (.slice x.Ar x.o.r.length x.cr) ≠ some g) ∧
  (OwAt w B (.slice x.As x.o.s.length x.cs) x.o.s ∧ wb (.slice x.As x.o.s.length x.cs) ≠ some g) ∧
  (OwCh w B (.slice x.Ap x.o.p.length x.cp) x.o.p ∧ wb (.slice x.Ap x.o.p.length x.cp) ≠ some g)
theorem PartN.below {w w' : World} {B g : Nat} {x : OpS} (h : PartN w B g x) (y : Below w.heap.size w w') : PartN w' B g x :=
  ⟨⟨h.1.1.below y (Nat.le_refl _), h.1.2⟩, ⟨h.2.1.1.below y (Nat.le_refl _), h.2.1.2⟩, ⟨h.2.2.1.below y (Nat.le_refl _), h.2.2.2⟩⟩
theorem PartN.set {w : World} {B g j : Nat} {u : Value} {x : OpS} (h : PartN w B g x) : PartN (w.setCell ⟨g, j, none⟩ u) B g x :=
  ⟨⟨h.1.1.setCell (p := ⟨g, j, none⟩) h.1.2 u, h.1.2⟩, ⟨h.2.1.1.setCell (p := ⟨g, j, none⟩) h.2.1.2 u, h.2.1.2⟩, ⟨h.2.2.1.setCell (p := ⟨g, j, none⟩) h.2.2.2 u, h.2.2.2⟩⟩
theorem CellsAt.blk {w w' : World} {p : Addr} {cs : List Value} (h : CellsAt w p cs) (hb : w'.heap[p.block]? = w.heap[p.block]?) : CellsAt w' p cs :=
  h.keep fun q hq => by simp only [World.cell?]; rw [hq, hb]
/-- ops of the call's own, down to their parts -/
def NewOps (o : List Opd) (w : World) (e : Ending) (w' : World) : Prop :=
  ∃ A c l, e = .returned (.slice A l.length c) ∧ osOf l = o ∧ OwOs w' w.heap.size (.slice A l.length c) l ∧ (∀ x ∈ l, ∃ g, PartN w' w.heap.size g x) ∧ Below w.heap.size w w'

end Go.Proofs.YtfnkjcodcoehcaaGreatDoor
namespace Go.Proofs.YtfnkjcodcoehcaaGreatDoor
open Go.RowKit
set_option linter.unusedVariables false
set_option linter.unusedSimpArgs false

theorem PartN.base_le {w : World} {B B' g : Nat} {x : OpS} (h : PartN w B g x) (hb : B' ≤ B) : PartN w B' g x :=
  ⟨⟨h.1.1.base_le hb, h.1.2⟩, ⟨h.2.1.1.base_le hb, h.2.1.2⟩, ⟨h.2.2.1.base_le hb, h.2.2.2⟩⟩
end Go.Proofs.YtfnkjcodcoehcaaGreatDoor
namespace Go.Proofs.YtfnkjcodcoehcaaGreatDoor
open Go.RowKit
set_option linter.unusedVariables false
set_option linter.unusedSimpArgs false

theorem InsB.new : InsB Mk.new 0 := ⟨Nat.le_refl _, fun o h => by cases h⟩
end Go.Proofs.YtfnkjcodcoehcaaGreatDoor
namespace Go.Proofs.YtfnkjcodcoehcaaGreatDoor
set_option linter.unusedVariables false
set_option linter.unusedSimpArgs false

theorem tight_isOp : ∀ {x : List Opd}, tight x → ∀ o ∈ x, isOp o
  | [], _ => fun o h => by cases h
  | a :: x, h => fun o ho => by
    rcases List.mem_cons.1 ho with rfl | ho
    · exact h.1
    · exact tight_isOp h.2.2 o ho
end Go.Proofs.YtfnkjcodcoehcaaGreatDoor
namespace Go.Proofs.YtfnkjcodcoehcaaGreatDoor
set_option linter.unusedVariables false
set_option linter.unusedSimpArgs false

/-- a maker has at most K ops, with at most K runes and S attributes or changes each -/
structure MkB (m : Mk) (K S : Nat) : Prop where
  len : m.done.length + m.ins.length ≤ K
  prt : ∀ o ∈ m.done ++ m.ins, o.r.length ≤ K ∧ o.s.length ≤ S ∧ o.p.length ≤ S
theorem MkB.new (S : Nat) : MkB Mk.new 0 S := ⟨Nat.le_refl _, fun o h => by simp [Mk.new] at h⟩
theorem MkB.mono {m : Mk} {K K' S S' : Nat} (h : MkB m K S) (hK : K ≤ K') (hS : S ≤ S') : MkB m K' S' :=
  ⟨Nat.le_trans h.len hK, fun o ho => by obtain ⟨h1, h2, h3⟩ := h.prt o ho; exact ⟨by omega, by omega, by omega⟩⟩
theorem MkB.gap {m : Mk} {K S : Nat} (h : MkB m K S) : (m.done ++ mkGap m).length ≤ K + 1 ∧ ∀ o ∈ m.done ++ mkGap m, o.r.length ≤ K ∧ o.s.length ≤ S ∧ o.p.length ≤ S := by
  have h1 := h.len
  refine ⟨?_, fun o ho => ?_⟩
  · unfold mkGap
    split <;> simp <;> omega
  · unfold mkGap at ho
    rw [← List.append_assoc] at ho
    rcases List.mem_append.1 ho with ho | ho
    · exact h.prt o ho
    · split at ho
      · simp at ho; subst ho; exact ⟨Nat.zero_le _, Nat.zero_le _, Nat.zero_le _⟩
      · cases ho
theorem addR_bnd {d : List Opd} {n : Int} {p : List Ch} {K S : Nat} (h : ∀ o ∈ d, o.r.length ≤ K ∧ o.s.length ≤ S ∧ o.p.length ≤ S) (hp : p.length ≤ S) :
    (addR d n p).length ≤ d.length + 1 ∧ ∀ o ∈ addR d n p, o.r.length ≤ K ∧ o.s.length ≤ S ∧ o.p.length ≤ S := by
  have push : (d ++ [opR n p]).length ≤ d.length + 1 ∧ ∀ o ∈ d ++ [opR n p], o.r.length ≤ K ∧ o.s.length ≤ S ∧ o.p.length ≤ S := ⟨by simp, fun o ho => by
    rcases List.mem_append.1 ho with ho | ho
    · exact h o ho
    · simp at ho; subst ho; exact ⟨Nat.zero_le _, Nat.zero_le _, hp⟩⟩
  unfold addR
  cases hg : d.getLast? with
  | none => exact push
  | some o =>
    simp only
    by_cases hc : o.k = 1 ∧ o.p = p
    · rw [if_pos hc]
      have hm := List.mem_of_getLast? hg
      refine ⟨by simp, fun x hx => ?_⟩
      rcases List.mem_append.1 hx with hx | hx
      · exact h x ((List.dropLast_sublist _).subset hx)
      · simp at hx; subst hx; exact h o hm
    · rw [if_neg hc]; exact push
theorem MkB.retain {m : Mk} {K S : Nat} (h : MkB m K S) (n : Int) {p : List Ch} (hp : p.length ≤ S) : MkB (mkRetain m n p) (K + 2) S := by
  unfold mkRetain
  split
  · exact h.mono (by omega) (Nat.le_refl _)
  · obtain ⟨g1, g2⟩ := h.gap
    obtain ⟨a1, a2⟩ := addR_bnd (n := n) (p := p) g2 hp
    refine ⟨by show (addR _ n p).length + 0 ≤ _; omega, fun o ho => ?_⟩
    have ho' : o ∈ addR (m.done ++ mkGap m) n p := by simpa using ho
    obtain ⟨h1, h2, h3⟩ := a2 o ho'
    exact ⟨by omega, h2, h3⟩
theorem MkB.insert {m : Mk} {K S : Nat} (h : MkB m K S) (l : List Int) {s : List At} (hs : s.length ≤ S) : MkB (mkInsert m l s) (K + l.length) S := by
  unfold mkInsert
  by_cases hl : l = []
  · rw [if_pos hl]; exact h.mono (by omega) (Nat.le_refl _)
  · rw [if_neg hl]
    have hpos : 0 < l.length := List.length_pos_iff.2 hl
    have hlen := h.len
    have base : ∀ o ∈ m.done ++ m.ins, o.r.length ≤ K + l.length ∧ o.s.length ≤ S ∧ o.p.length ≤ S := fun o ho => by obtain ⟨h1, h2, h3⟩ := h.prt o ho; exact ⟨by omega, h2, h3⟩
    have push : MkB { m with ins := m.ins ++ [opI l s] } (K + l.length) S := ⟨by simp; omega, fun o ho => by
      simp only at ho
      rw [← List.append_assoc] at ho
      rcases List.mem_append.1 ho with ho | ho
      · exact base o ho
      · simp at ho; subst ho; exact ⟨by simp [opI], hs, Nat.zero_le _⟩⟩
    unfold addI
    cases hg : m.ins.getLast? with
    | none => exact push
    | some o =>
      simp only
      by_cases hc : o.s = s
      · rw [if_pos hc]
        have hm := List.mem_of_getLast? hg
        have hpi := List.length_pos_of_mem hm
        refine ⟨by simp; omega, fun x hx => ?_⟩
        simp only at hx
        rw [← List.append_assoc] at hx
        rcases List.mem_append.1 hx with hx | hx
        · refine base x ?_
          rcases List.mem_append.1 hx with hx | hx
          · exact List.mem_append_left _ hx
          · exact List.mem_append_right _ ((List.dropLast_sublist _).subset hx)
        · simp at hx; subst hx
          obtain ⟨h1, h2, h3⟩ := h.prt o (List.mem_append_right _ hm)
          exact ⟨by simp; omega, h2, h3⟩
      · rw [if_neg hc]; exact push
theorem MkB.delete {m : Mk} {K S : Nat} (h : MkB m K S) (n : Int) : MkB (mkDelete m n) K S := ⟨h.len, h.prt⟩
theorem cutR_sub (d : List Opd) : (cutR d).length ≤ d.length ∧ ∀ o ∈ cutR d, o ∈ d := by
  unfold cutR
  split
  · split
    · exact ⟨(List.dropLast_sublist _).length_le, fun o ho => (List.dropLast_sublist _).subset ho⟩
    · exact ⟨Nat.le_refl _, fun o ho => ho⟩
  · exact ⟨Nat.le_refl _, fun o ho => ho⟩
theorem MkB.ops {m : Mk} {K S : Nat} (h : MkB m K S) : (mkOps m).length ≤ K + 1 ∧ ∀ o ∈ mkOps m, o.r.length ≤ K ∧ o.s.length ≤ S ∧ o.p.length ≤ S := by
  obtain ⟨g1, g2⟩ := h.gap
  obtain ⟨c1, c2⟩ := cutR_sub (m.done ++ mkGap m)
  exact ⟨Nat.le_trans c1 g1, fun o ho => g2 o (c2 o ho)⟩
end Go.Proofs.YtfnkjcodcoehcaaGreatDoor
namespace Go.Proofs.YtfnkjcodcoehcaaGreatDoor
open Go.RowKit
set_option linter.unusedVariables false
set_option linter.unusedSimpArgs false

theorem nf_all {P : Un → Prop} (hd : P .del) {us : List Un} (h : ∀ u ∈ us, P u) : ∀ u ∈ nf us, P u := fun u hu => by
  obtain ⟨k, hk⟩ := trim_pre (canon us)
  refine cn_all hd us [] 0 (by simp) h u ?_
  show u ∈ canon us
  rw [hk]; exact List.mem_append_left _ hu
/-- a made delta may be handed on -/
theorem ok_made {x : List OpS} {m : Mk} {us : List Un} {K S : Nat} (hx : osOf x = mkOps m) (ht : Told m us) (hu : ∀ u ∈ us, okUn u) (hB : MkB m K S) (hK : K ≤ 100000000) (hS : S ≤ 100000000) : (∀ o ∈ x, okOp o.o) ∧ x.length ≤ K + 1 := by
  obtain ⟨h1, h2⟩ := ht.ops
  rw [← hx] at h1 h2
  obtain ⟨b1, b2⟩ := hB.ops
  rw [← hx] at b1 b2
  have hn := nf_all (P := okUn) trivial hu
  rw [← h2] at hn
  refine ⟨fun o ho => ?_, by unfold osOf at b1; simpa using b1⟩
  have hom : o.o ∈ osOf x := by unfold osOf; exact List.mem_map_of_mem ho
  obtain ⟨l1, l2, l3⟩ := b2 o.o hom
  have hop := tight_isOp h1 o.o hom
  have hsub : ∀ u ∈ unitsO o.o, okUn u := fun u hu => hn u (units_mem.2 ⟨o, ho, hu⟩)
  have nilr : okVr ([] : List At) := fun c hc => by cases hc
  have nils : okVs ([] : List Ch) := fun c hc => by cases hc
  refine ⟨?_, ?_, by omega, by omega, by omega⟩
  · rcases isOp_kind hop with hk | hk | hk
    · obtain ⟨e, hr⟩ := opI_of hop hk
      cases hr' : o.o.r with
      | nil => exact absurd hr' hr
      | cons r rs => exact hsub (.ins r o.o.s) (by unfold unitsO; rw [if_pos hk, hr']; simp)
    · obtain ⟨e, hr⟩ := opD_of hop hk
      rw [e]; exact nilr
    · obtain ⟨e, hr⟩ := opR_of hop hk
      rw [e]; exact nilr
  · rcases isOp_kind hop with hk | hk | hk
    · obtain ⟨e, hr⟩ := opI_of hop hk
      rw [e]; exact nils
    · obtain ⟨e, hr⟩ := opD_of hop hk
      rw [e]; exact nils
    · obtain ⟨e, hr⟩ := opR_of hop hk
      obtain ⟨k, hk2⟩ : ∃ k, o.o.n.toNat = k + 1 := ⟨o.o.n.toNat - 1, by omega⟩
      exact hsub (.ret o.o.p) (by unfold unitsO; rw [if_neg (by rw [hk]; decide), if_pos hk, hk2]; simp [List.replicate_succ])
/-- how it reads -/
theorem rd_made {w : World} {B : Nat} {A : Option Addr} {c : Nat} {x : List OpS} (ho : OwOs w B (.slice A x.length c) x) (hp : ∀ z ∈ x, ∃ g, PartN w B g z) : RdOp w w.heap.size A x := ⟨ho.rd OpS.enc_len, fun z hz => by
  obtain ⟨g, h1, h2, h3⟩ := hp z hz
  exact ⟨h1.1.rd encI32_len, h2.1.rd At.enc_len, h3.1.rd Ch.enc_len⟩⟩
/-- how cells of the call's own read -/
theorem rd_cells {w : World} {B B2 : Nat} {A : Option Addr} {c : Nat} {v : Value} {L : List ClS} (ho : OwCs w B (.slice A L.length c) L) (hp : ∀ z ∈ L, PartC w B2 v z) : RdCl w w.heap.size A L ∧ (∀ z ∈ L, z.c.s.length ≤ z.cs ∧ z.cs ≤ maxLen) ∧ L.length ≤ c := ⟨⟨ho.rd ClS.enc_len, fun z hz => (hp z hz).1.rd At.enc_len⟩, fun z hz => by
    obtain ⟨_, _, hv, hc1, hc2⟩ := (hp z hz).1.form
    injection hv with _ _ hcc
    subst hcc
    exact ⟨hc1, hc2⟩, ho.cap.1⟩
end Go.Proofs.YtfnkjcodcoehcaaGreatDoor
namespace Go.Proofs.YtfnkjcodcoehcaaGreatDoor
open Go.RowKit
set_option linter.unusedVariables false

theorem Ow.new {α : Type} {enc : α → List Value} {size : Nat} (hs : ∀ a, (enc a).length = size) (w : World) (e : TypeId) (l : List α) {cs : Array Value} (hc : cs.toList = l.flatMap enc) {n b B : Nat} (hn : n = l.length) (hm : n ≤ maxLen) (hB : B ≤ w.heap.size) (hb : b = w.heap.size) :
    Ow enc size e (w.alloc (.cells cs e)) B (.slice (some ⟨b, 0, none⟩) n n) l := by
  subst hb
  subst hn
  refine .inr ⟨by rw [flat_len hs], .inr ⟨w.heap.size, l.length, cs, rfl, hB, heap_alloc_new w (.cells cs e), Nat.le_refl _, hm, ?_, ?_⟩⟩
  · rw [← Array.length_toList, hc, flat_len hs]
  · rw [hc]
    exact List.take_of_length_le (by rw [flat_len hs]; exact Nat.le_refl _)
end Go.Proofs.YtfnkjcodcoehcaaGreatDoor
