/- The walk of slices.Insert of one attribute into a row of the call's own. -/
import Derived.Test.YtfnkjcodcoehcaaApply
import Derived.Test.YtfnkjcodcoehcaaInsOps
import Derived.Lib.AppendZeros
import Derived.Deep.RegionLaw
import Derived.Laws.CopyOwn
namespace Go.Proofs.Ytfnkjcodcoehcaa
open Go.RowKit
set_option linter.unusedVariables false
set_option linter.unusedSimpArgs false

theorem Try.undInt' : Try.prog.underlying 3 = some (.int .i64) := by kernel_rfl
theorem take_app2 {α : Type} (A B R : List α) (n : Nat) (h : n = A.length + B.length) : (A ++ B ++ R).take n = A ++ B := by
  subst h
  rw [← List.length_append, List.take_left]
def insP (l : List At) (i : Nat) (a : At) : List At := l.take i ++ a :: l.drop i
theorem insP_len (l : List At) (i : Nat) (a : At) (h : i ≤ l.length) : (insP l i a).length = l.length + 1 := by
  simp [insP]; omega
theorem insP_flat (l : List At) (i : Nat) (a : At) : (insP l i a).flatMap At.enc = (l.take i).flatMap At.enc ++ (a.enc ++ (l.drop i).flatMap At.enc) := by
  simp [insP, List.flatMap_append, List.flatMap_cons]

/-- at the end -/
theorem insert_end (A : Option Addr) (n c base gv : Nat) (l : List At) (x1 x2 x3 x4 : Int) (x5 : ByteArray) (w : World) (hown : OwAt w base (.slice A n c) l) (hn : n = l.length) (hb : n ≤ 100000000) (hbase : base ≤ w.heap.size)
    (hv : w.heap[gv]? = some (.cells #[.int .i64 x1, .int .u8 x2, .int .i64 x3, .int .u64 x4, .string x5] 55 (0, 0))) :
    Calls Try.prog 56 #[.slice A n c, .int .i64 (n : Int), .slice (some ⟨gv, 0, none⟩) 1 1] w fun e w' =>
      ∃ A' c', e = .returned (.slice A' (n + 1) c') ∧ OwAt w' base (.slice A' (n + 1) c') (insP l n ⟨x1, ⟨x2, x3, x4, x5⟩⟩) ∧ Below base w w' := by
  have N := Lib.hid hn
  have hcap := hown.cap
  have hlc : n ≤ c := by rw [hn]; exact hcap.1
  have hcm : c ≤ 2 ^ 63 - 1 := hcap.2
  clear hn hcap
  have hrd : RdAt w w.heap.size (some ⟨gv, 0, none⟩) [⟨x1, ⟨x2, x3, x4, x5⟩⟩] := by
    intro _
    refine ⟨_, rfl, blk_lt hv, fun i hi j u hu => ?_⟩
    have hi0 : i = 0 := by simpa using hi
    subst hi0
    rw [Nat.zero_mul, add_zero', add_row]
    simp only [World.cell?, hv]
    simpa [At.enc] using hu
  have hz : ((1 : Int) == 0) = false := rfl
  rcases Nat.lt_or_ge n c with hnc | hnc
  · have hne : ¬ c = n := by omega
    go_enter Try.func56, Try.ntmps56
    go_wp2_with (at_builtin; refine app_at (m := [⟨x1, ⟨x2, x3, x4, x5⟩⟩]) rfl (.tmp 23) (.tmp 24) rfl rfl (by exact hown) _ _ 1 1 rfl rfl (by exact hrd) (by have := N.out; simp only [List.length_singleton]; omega) hbase ?_; intro v' w' hown' hgr hv')
    obtain ⟨A', c', hvv, _, _⟩ := hown'.form
    subst hvv
    have e : l ++ [⟨x1, ⟨x2, x3, x4, x5⟩⟩] = insP l n ⟨x1, ⟨x2, x3, x4, x5⟩⟩ := by
      rw [N.out]; simp [insP]
    have el : (l ++ [(⟨x1, ⟨x2, x3, x4, x5⟩⟩ : At)]).length = n + 1 := by rw [N.out]; simp
    rw [el] at hown' ⊢
    rw [e] at hown'
    go_ret
    exact ⟨A', c', rfl, hown', (Below.refl _ _).grown hgr hbase (fun k hk => (hown.wb_lt k hk).1)⟩
  · have hce : c = n := by omega
    subst hce
    go_enter Try.func56, Try.ntmps56
    go_wp2_with (at_builtin; refine app_at (m := [⟨x1, ⟨x2, x3, x4, x5⟩⟩]) rfl (.tmp 23) (.tmp 24) rfl rfl (by exact hown) _ _ 1 1 rfl rfl (by exact hrd) (by have := N.out; simp only [List.length_singleton]; omega) hbase ?_; intro v' w' hown' hgr hv')
    obtain ⟨A', c', hvv, _, _⟩ := hown'.form
    subst hvv
    have e : l ++ [⟨x1, ⟨x2, x3, x4, x5⟩⟩] = insP l c ⟨x1, ⟨x2, x3, x4, x5⟩⟩ := by
      rw [N.out]; simp [insP]
    have el : (l ++ [(⟨x1, ⟨x2, x3, x4, x5⟩⟩ : At)]).length = c + 1 := by rw [N.out]; simp
    rw [el] at hown' ⊢
    rw [e] at hown'
    go_ret
    exact ⟨A', c', rfl, hown', (Below.refl _ _).grown hgr hbase (fun k hk => (hown.wb_lt k hk).1)⟩

set_option maxRecDepth 100000 in
set_option maxHeartbeats 1000000 in
/-- within, where a new row is wanted -/
theorem insert_grow (A : Option Addr) (n c base gv i : Nat) (l : List At) (x1 x2 x3 x4 : Int) (x5 : ByteArray) (w : World) (hown : OwAt w base (.slice A n c) l) (hn : n = l.length) (hb : n ≤ 100000000) (hbase : base ≤ w.heap.size)
    (hv : w.heap[gv]? = some (.cells #[.int .i64 x1, .int .u8 x2, .int .i64 x3, .int .u64 x4, .string x5] 55 (0, 0))) (hi : i < n) (hc : c < n + 1) :
    Calls Try.prog 56 #[.slice A n c, .int .i64 (i : Int), .slice (some ⟨gv, 0, none⟩) 1 1] w fun e w' =>
      ∃ A' c', e = .returned (.slice A' (n + 1) c') ∧ OwAt w' base (.slice A' (n + 1) c') (insP l i ⟨x1, ⟨x2, x3, x4, x5⟩⟩) ∧ Below base w w' := by
  have N := Lib.hid hn
  obtain ⟨g, cur, rfl, -, hbg, hg, hlc, hcm, hcur, htake⟩ := hown.row (by omega)
  obtain rfl : c = n := by omega
  obtain ⟨i0, hi0, hz0, hz1, hz2⟩ := info_parts Try.infoAt
  have hgl := blk_lt hg
  have hvl := blk_lt hv
  have hflat := flat_len At.enc_len l
  have hsrc : ∀ j u, (l.flatMap At.enc)[j]? = some u → w.cell? ⟨g, j, none⟩ = some u := by
    intro j u hu
    rw [← htake, List.getElem?_take] at hu
    split at hu
    · simp only [World.cell?, hg]; simpa using hu
    · cases hu
  obtain ⟨m, hm⟩ : ∃ m, m = c + 1 - i := ⟨_, rfl⟩
  have hrun := run_append_zeros_grow (P := Try.prog) w 24 3 24 55 i0 _ .i64 .i64 Try.slAt Try.undInt' hi0 hz0 ⟨g, 0, none⟩ i c m ((l.take i).flatMap At.enc) (by rw [flat_len At.enc_len, List.length_take, hz1]; congr 1; omega)
    (fun j u hu => by rw [add_row]; exact hsrc j u (by rw [← flat_take At.enc_len] at hu; rw [List.getElem?_take] at hu; split at hu; exact hu; cases hu)) (by omega) (by omega) (by omega) (by omega) (by omega)
  have him : i + m = c + 1 := by omega
  rw [him] at hrun
  have hge := grownCap_ge w (c + 1) c 55
  have hcm1 : grownCap w (c + 1) c 55 ≤ maxLen := grownCap_le_maxLen w (c + 1) c _ (by simp only [maxLen]; omega)
  generalize grownCap w (c + 1) c 55 = k1 at *
  have hzc : (Builtin.zeroCells (At.val ⟨0, V.zero⟩).cells m).size = m * 5 := size_zeroCells _ _
  have hzc2 : (Builtin.zeroCells (At.val ⟨0, V.zero⟩).cells (k1 - (c + 1))).size = (k1 - (c + 1)) * 5 := size_zeroCells _ _
  generalize Builtin.zeroCells (At.val ⟨0, V.zero⟩).cells m = Z1 at *
  generalize Builtin.zeroCells (At.val ⟨0, V.zero⟩).cells (k1 - (c + 1)) = Z2 at *
  have hT : ((l.take i).flatMap At.enc).length = i * 5 := by rw [flat_len At.enc_len, List.length_take]; congr 1; omega
  have hD : ((l.drop i).flatMap At.enc).length = (c - i) * 5 := by rw [flat_len At.enc_len, List.length_drop]; congr 1; omega
  obtain ⟨C1, hC1⟩ : ∃ C1, C1 = ((l.take i).flatMap At.enc).toArray ++ Z1 ++ Z2 := ⟨_, rfl⟩
  rw [← hC1] at hrun
  have hC1l : C1.toList = (l.take i).flatMap At.enc ++ (Z1.toList ++ Z2.toList) := by rw [hC1]; simp
  have hC1s : C1.size = k1 * 5 := by rw [← Array.length_toList, hC1l]; simp only [List.length_append, hT, Array.length_toList, hzc, hzc2]; omega
  obtain ⟨w1, hw1⟩ : ∃ w1, w1 = w.drew.alloc (.cells C1 55) := ⟨_, rfl⟩
  rw [← hw1] at hrun
  have hb1 : Below w.heap.size w w1 := by rw [hw1]; exact (Below.refl _ _).drew.alloc (Nat.le_refl _) _
  have hg1 : w1.heap[w.heap.size]? = some (.cells C1 55 (0, 0)) := by rw [hw1]; exact heap_alloc_new w.drew _
  have hgo : w1.heap[g]? = some (.cells cur 55 (0, 0)) := (hb1.block g hgl).trans hg
  have hvo := (hb1.block gv hvl).trans hv
  clear hw1 hC1
  -- the first copy
  have hmin1 : Nat.min 1 (c + 1 - i) = 1 := by simp only [Nat.min_def]; split <;> omega
  have hcp1 := run_copy_onto (P := Try.prog) w1 24 24 3 55 i0 5 Try.slAt hi0 hz1 w.heap.size (i * 5) (c + 1 - i) (k1 - i) ⟨gv, 0, none⟩ 1 1 C1 _ (At.enc ⟨x1, ⟨x2, x3, x4, x5⟩⟩) hg1 (by rw [hmin1]; rfl)
    (fun j u hu => by rw [add_row]; simp only [World.cell?, hvo]; simpa [At.enc] using hu) (by rw [hC1s, At.enc_len]; omega) (At.enc_one _)
  have hne1 : ¬ c = i := by omega
  have hne2 : ¬ k1 = i := by omega
  have hmi : (c : Int) + 1 - (i : Int) = (m : Int) := by omega
  have hcp1' : ∃ w2 C2, (Builtin.copy_ #[24, 24] 3 #[.slice (some ⟨w.heap.size, i * 5, none⟩) (c + 1 - i) (k1 - i), .slice (some ⟨gv, 0, none⟩) 1 1]).run Try.prog w1 = .ok (goInt 1) w2 ∧
      w2.heap[w.heap.size]? = some (.cells C2 55 (0, 0)) ∧ Below w.heap.size w1 w2 ∧ C2.size = k1 * 5 ∧ C2.toList.take ((i + 1) * 5) = (l.take i).flatMap At.enc ++ At.enc ⟨x1, ⟨x2, x3, x4, x5⟩⟩ := by
    rw [hmin1] at hcp1
    refine ⟨_, _, hcp1, setRow_heap w1 _ C1 _ _ _ hg1, below_setRow (Below.refl _ _) (Nat.le_refl _) _, ?_, ?_⟩
    · simp only [List.size_toArray, List.length_append, List.length_take, List.length_drop, Array.length_toList, At.enc_len, hC1s]
      omega
    · have e1 : C1.toList.take (i * 5) = (l.take i).flatMap At.enc := by rw [hC1l, ← hT, List.take_left]
      rw [e1, take_app2 _ _ _ _ (by rw [hT, At.enc_len]; omega)]
  obtain ⟨w2, C2, hr2, hg2, hb2, hs2, ht2⟩ := hcp1'
  have hgo2 : w2.heap[g]? = some (.cells cur 55 (0, 0)) := (hb2.block g hgl).trans hgo
  have hmin2 : Nat.min (c - i) (c + 1 - (i + 1)) = c - i := by simp only [Nat.min_def]; split <;> omega
  have hcp2 := run_copy_onto (P := Try.prog) w2.drew 24 24 3 55 i0 5 Try.slAt hi0 hz1 w.heap.size ((i + 1) * 5) (c + 1 - (i + 1)) (k1 - (i + 1)) ⟨g, i * 5, none⟩ (c - i) (c - i) C2 _ ((l.drop i).flatMap At.enc) hg2 (by rw [hmin2]; exact hD)
    (fun j u hu => by
      rw [← flat_drop At.enc_len, List.getElem?_drop] at hu
      have hu' := hu
      rw [← htake, List.getElem?_take] at hu'
      split at hu'
      · simp only [Addr.add]
        split
        · rename_i h0; rw [h0, Nat.add_zero] at hu'
          simp only [World.cell?]
          rw [show w2.drew.heap[g]? = _ from hgo2]; simpa using hu'
        · simp only [World.cell?]
          rw [show w2.drew.heap[g]? = _ from hgo2]; simpa using hu'
      · cases hu') (by rw [hD, hs2]; omega) (fun u hu => by obtain ⟨y, _, hy⟩ := List.mem_flatMap.1 hu; exact At.enc_one y u hy)
  have hcp2' : ∃ w3 C3, (Builtin.copy_ #[24, 24] 3 #[.slice (some ⟨w.heap.size, (i + 1) * 5, none⟩) (c + 1 - (i + 1)) (k1 - (i + 1)), .slice (some ⟨g, i * 5, none⟩) (c - i) (c - i)]).run Try.prog w2.drew = .ok (goInt ((c - i : Nat) : Int)) w3 ∧
      w3.heap[w.heap.size]? = some (.cells C3 55 (0, 0)) ∧ Below w.heap.size w2 w3 ∧ C3.size = k1 * 5 ∧ C3.toList.take ((c + 1) * 5) = (insP l i ⟨x1, ⟨x2, x3, x4, x5⟩⟩).flatMap At.enc := by
    rw [hmin2] at hcp2
    refine ⟨_, _, hcp2, setRow_heap w2.drew _ C2 _ _ _ hg2, below_setRow (Below.refl _ _).drew (Nat.le_refl _) _, ?_, ?_⟩
    · simp only [List.size_toArray, List.length_append, List.length_take, List.length_drop, Array.length_toList, hD, hs2]
      omega
    · rw [ht2, insP_flat]
      rw [take_app2 _ _ _ _ (by rw [List.length_append, hT, hD, At.enc_len]; omega), List.append_assoc]
  obtain ⟨w3, C3, hr3, hg3, hb3, hs3, ht3⟩ := hcp2'
  have H1 := Lib.hid hrun
  have H2 := Lib.hid hr2
  have H3 := Lib.hid hr3
  have HG3 := Lib.hid hg3
  have HT3 := Lib.hid ht3
  have HS3 := Lib.hid hs3
  have HGE := Lib.hid hge
  have hicf : ((i : Int) == (c : Int)) = false := beq_eq_false_iff_ne.2 (by omega)
  have hwi : IntKind.i64.wrap ((i : Int) + 1) = (i : Int) + 1 := IntWalk.i64_in _ (by simp only [maxLen] at hcm; omega)
  have hti : ((i : Int) + 1).toNat = i + 1 := by omega
  have hpi : (0 : Int) ≤ (i : Int) + 1 := by omega
  have hne3 : ¬ k1 = i + 1 := by omega
  have hic1 : i + 1 ≤ c + 1 := by omega
  have hic2 : i ≤ c := by omega
  have hic3 : i < c + 1 := by omega
  have hcm' : c ≤ 2 ^ 63 - 1 := hcm
  have hkm' : k1 ≤ 2 ^ 63 - 1 := hcm1
  clear hrun hcp1 hcp2 hr2 hr3 hm htake hflat hsrc hn hg3 ht3 hs3 hmin1 hmin2 hT hD hC1l hC1s hzc hzc2 hge hcm hcm1 him hlc hcur ht2 hs2 hg2 hgo2 hg1 hgo hvo hg hv
  go_enter Try.func56, Try.ntmps56
  go_wp2_with (first
    | (at_builtin; refine Lib.wpList_append_run _ rfl (.tmp 34) (.tmp 39) _ _ rfl _ _ rfl rfl _ _ H1.out ?_)
    | (refine wpList_copy_run rfl (.tmp 43) (.tmp 44) _ _ rfl _ _ rfl rfl _ _ H2.out ?_))
  go_region_law (refine step_copy_run rfl (.tmp 50) (.tmp 53) _ _ rfl _ _ (by simp [Act.eval, Act.put]) (by simp [Act.eval, Act.put]) _ _ H3.out ?_)
  all_goals go_wp2_with (fail)
  all_goals
    go_ret
    have e : c + 1 = (insP l i ⟨x1, ⟨x2, x3, x4, x5⟩⟩).length := by rw [insP_len _ _ _ (by rw [← N.out]; omega), N.out]
    refine ⟨some ⟨w.heap.size, 0, none⟩, k1, rfl, ?_, ((hb1.trans hb2).trans hb3).mono hbase⟩
    refine .inr ⟨flat_len At.enc_len _, .inr ⟨w.heap.size, k1, C3, by rw [e], hbase, HG3.out, by rw [← e]; exact HGE.out, hkm', HS3.out, by rw [← e]; exact HT3.out⟩⟩

set_option maxRecDepth 100000 in
set_option maxHeartbeats 1000000 in
/-- within, where there is room -/
theorem insert_room (A : Option Addr) (n c base gv i : Nat) (l : List At) (x1 x2 x3 x4 : Int) (x5 : ByteArray) (w : World) (hown : OwAt w base (.slice A n c) l) (hn : n = l.length) (hb : n ≤ 100000000) (hbase : base ≤ w.heap.size)
    (hv : w.heap[gv]? = some (.cells #[.int .i64 x1, .int .u8 x2, .int .i64 x3, .int .u64 x4, .string x5] 55 (0, 0))) (hi : i < n) (hc : n + 1 ≤ c) (hne : wb (.slice A n c) ≠ some gv) :
    Calls Try.prog 56 #[.slice A n c, .int .i64 (i : Int), .slice (some ⟨gv, 0, none⟩) 1 1] w fun e w' =>
      ∃ A' c', e = .returned (.slice A' (n + 1) c') ∧ OwAt w' base (.slice A' (n + 1) c') (insP l i ⟨x1, ⟨x2, x3, x4, x5⟩⟩) ∧ Below base w w' := by
  have N := Lib.hid hn
  obtain ⟨g, cur, rfl, -, hbg, hg, hlc, hcm, hcur, htake⟩ := hown.row (by omega)
  obtain ⟨i0, hi0, hz0, hz1, hz2⟩ := info_parts Try.infoAt
  have hgl := blk_lt hg
  have hvl := blk_lt hv
  have hgv : gv ≠ g := by
    intro e
    subst e
    cases c with
    | zero => omega
    | succ c => exact hne rfl
  have hT : ((l.take i).flatMap At.enc).length = i * 5 := by rw [flat_len At.enc_len, List.length_take]; congr 1; omega
  have hD : ((l.drop i).flatMap At.enc).length = (n - i) * 5 := by rw [flat_len At.enc_len, List.length_drop]; congr 1; omega
  have hz : ∀ w, (sizeOf 55).run Try.prog w = .ok 5 w := fun w => by simp [sizeOf, typeInfo, hi0, hz1]
  have hov : ∀ W lb cb, W.heap[g]? = some (.cells cur 55 (0, 0)) → W.heap[gv]? = some (.cells #[.int .i64 x1, .int .u8 x2, .int .i64 x3, .int .u64 x4, .string x5] 55 (0, 0)) →
      (callFunc 73 #[.slice (some ⟨gv, 0, none⟩) 1 1, .slice (some ⟨g, (i + 1) * 5, none⟩) lb cb]).run Try.prog W = .ok (.value (.bool false)) W := fun W lb cb hWg hWv => by
    rw [run_callFunc_extern Try.func73 (by kernel_rfl) (by kernel_rfl) (by kernel_rfl) (e := Extern.SlicesOverlaps.overlaps #[24, 24] #[4]) (by kernel_rfl),
      Lib.run_overlaps_apart W 24 4 55 Try.slAt 5 hz ⟨gv, 0, none⟩ ⟨g, (i + 1) * 5, none⟩ 1 1 lb cb hgv 55 55 5 (c * 5) (by simp [World.shape?, hWv]) (by simp [World.shape?, hWg, hcur]) (by omega) (by simp [World.frozen?, hWv]) (by simp [World.frozen?, hWv])]
    rfl
  have hmin1 : Nat.min (n + 1 - i) (n + 1 - (i + 1)) = n - i := by simp only [Nat.min_def]; split <;> omega
  have hmin2 : Nat.min 1 (n + 1 - i) = 1 := by simp only [Nat.min_def]; split <;> omega
  have hcp1 := run_copy_onto (P := Try.prog) w.drew 24 24 3 55 i0 5 Try.slAt hi0 hz1 g ((i + 1) * 5) (n + 1 - (i + 1)) (c - (i + 1)) ⟨g, i * 5, none⟩ (n + 1 - i) (c - i) cur _ ((l.drop i).flatMap At.enc) hg (by rw [hmin1]; exact hD)
    (fun j u hu => by
      rw [← flat_drop At.enc_len, List.getElem?_drop] at hu
      have hu' := hu
      rw [← htake, List.getElem?_take] at hu'
      split at hu'
      · simp only [Addr.add]
        split
        · rename_i h0; rw [h0, Nat.add_zero] at hu'
          simp only [World.cell?]
          rw [show w.drew.heap[g]? = _ from hg]; simpa using hu'
        · simp only [World.cell?]
          rw [show w.drew.heap[g]? = _ from hg]; simpa using hu'
      · cases hu') (by rw [hD, hcur]; omega) (fun u hu => by obtain ⟨y, _, hy⟩ := List.mem_flatMap.1 hu; exact At.enc_one y u hy)
  have hTc : cur.toList.take (i * 5) = (l.take i).flatMap At.enc := by rw [← flat_take At.enc_len, ← htake, List.take_take, Nat.min_eq_left (by omega)]
  have hcp1' : ∃ w2 C2, (Builtin.copy_ #[24, 24] 3 #[.slice (some ⟨g, (i + 1) * 5, none⟩) (n + 1 - (i + 1)) (c - (i + 1)), .slice (some ⟨g, i * 5, none⟩) (n + 1 - i) (c - i)]).run Try.prog w.drew = .ok (goInt ((n - i : Nat) : Int)) w2 ∧
      w2.heap[g]? = some (.cells C2 55 (0, 0)) ∧ Below base w w2 ∧ w2.heap[gv]? = w.heap[gv]? ∧ C2.size = c * 5 ∧ C2.toList.take (i * 5) = (l.take i).flatMap At.enc ∧ (C2.toList.drop ((i + 1) * 5)).take ((n - i) * 5) = (l.drop i).flatMap At.enc := by
    rw [hmin1] at hcp1
    refine ⟨_, _, hcp1, setRow_heap w.drew _ cur _ _ _ hg, below_setRow (Below.refl _ _).drew hbg _, setRow_other w.drew g gv _ hgv, ?_, ?_, ?_⟩
    · simp only [List.size_toArray, List.length_append, List.length_take, List.length_drop, Array.length_toList, hD, hcur]
      omega
    · have hlt : (cur.toList.take ((i + 1) * 5)).length = (i + 1) * 5 := by rw [List.length_take, Array.length_toList, hcur]; omega
      simp only [List.append_assoc]
      rw [List.take_append, hlt, List.take_take, Nat.min_eq_left (by omega), hTc, Nat.sub_eq_zero_of_le (by omega), List.take_zero, List.append_nil]
    · have hlt : (cur.toList.take ((i + 1) * 5)).length = (i + 1) * 5 := by rw [List.length_take, Array.length_toList, hcur]; omega
      simp only [List.append_assoc]
      rw [List.drop_append, hlt, Nat.sub_self, List.drop_zero, List.drop_of_length_le (by omega), List.nil_append, ← hD, List.take_left]
  obtain ⟨w2, C2, hr2, hg2, hb2, hvk, hs2, ht2, hd2⟩ := hcp1'
  have hv2 := hvk.trans hv
  have hcp2 := run_copy_onto (P := Try.prog) w2 24 24 3 55 i0 5 Try.slAt hi0 hz1 g (i * 5) (n + 1 - i) (c - i) ⟨gv, 0, none⟩ 1 1 C2 _ (At.enc ⟨x1, ⟨x2, x3, x4, x5⟩⟩) hg2 (by rw [hmin2]; rfl)
    (fun j u hu => by rw [add_row]; simp only [World.cell?, hv2]; simpa [At.enc] using hu) (by rw [hs2, At.enc_len]; omega) (At.enc_one _)
  have hcp2' : ∃ w3 C3, (Builtin.copy_ #[24, 24] 3 #[.slice (some ⟨g, i * 5, none⟩) (n + 1 - i) (c - i), .slice (some ⟨gv, 0, none⟩) 1 1]).run Try.prog w2 = .ok (goInt 1) w3 ∧
      w3.heap[g]? = some (.cells C3 55 (0, 0)) ∧ Below base w2 w3 ∧ C3.size = c * 5 ∧ C3.toList.take ((n + 1) * 5) = (insP l i ⟨x1, ⟨x2, x3, x4, x5⟩⟩).flatMap At.enc := by
    rw [hmin2] at hcp2
    refine ⟨_, _, hcp2, setRow_heap w2 _ C2 _ _ _ hg2, below_setRow (Below.refl _ _) hbg _, ?_, ?_⟩
    · simp only [List.size_toArray, List.length_append, List.length_take, List.length_drop, Array.length_toList, At.enc_len, hs2]
      omega
    · rw [ht2, insP_flat, List.take_append, List.take_of_length_le (by rw [List.length_append, hT, At.enc_len]; omega), List.length_append, hT, At.enc_len]
      have e1 : (n + 1) * 5 - (i * 5 + 5) = (n - i) * 5 := by omega
      have e2 : i * 5 + 5 = (i + 1) * 5 := by omega
      rw [e1, e2, hd2, List.append_assoc]
  obtain ⟨w3, C3, hr3, hg3, hb3, hs3, ht3⟩ := hcp2'
  have HOV := Lib.hid (hov w)
  have hov' : ∀ lb cb, (callFunc 73 #[.slice (some ⟨gv, 0, none⟩) 1 1, .slice (some ⟨g, (i + 1) * 5, none⟩) lb cb]).run Try.prog w = .ok (.value (.bool false)) w := fun lb cb => hov w lb cb hg hv
  have H2 := Lib.hid hr2
  have H3 := Lib.hid hr3
  have HG3 := Lib.hid hg3
  have HT3 := Lib.hid ht3
  have HS3 := Lib.hid hs3
  have hicf : ((i : Int) == (n : Int)) = false := beq_eq_false_iff_ne.2 (by omega)
  have hcm' : c ≤ 2 ^ 63 - 1 := hcm
  have hwi : IntKind.i64.wrap ((i : Int) + 1) = (i : Int) + 1 := IntWalk.i64_in _ (by simp only [maxLen] at hcm; omega)
  have hti : ((i : Int) + 1).toNat = i + 1 := by omega
  have hpi : (0 : Int) ≤ (i : Int) + 1 := by omega
  have hne1 : ¬ c = i := by omega
  have hne3 : ¬ c = i + 1 := by omega
  have hic2 : i ≤ n := by omega
  have hic3 : i < n + 1 := by omega
  have hic1 : i + 1 ≤ n + 1 := by omega
  have hge : ¬ ((c : Int) < (n : Int) + 1) := by omega
  have hin1 : (i : Int) ≤ (n : Int) + 1 := by omega
  clear hcp1 hcp2 hr2 hr3 htake hn hg3 ht3 hs3 hmin1 hmin2 hT hD hcm hlc hcur ht2 hs2 hg2 hd2 hvk hv2 hg hv hov hz hne hTc
  go_enter Try.func56, Try.ntmps56
  go_wp2_with (simp only [hov'])
  go_region_law (refine step_copy_run rfl (.tmp 73) (.tmp 76) _ _ rfl _ _ (by simp [Act.eval, Act.put]) (by simp [Act.eval, Act.put]) _ _ H2.out ?_)
  all_goals go_wp2_with (refine wpList_copy_run rfl (.tmp 80) (.tmp 81) _ _ rfl _ _ rfl rfl _ _ H3.out ?_)
  all_goals
    go_ret
    have e : n + 1 = (insP l i ⟨x1, ⟨x2, x3, x4, x5⟩⟩).length := by rw [insP_len _ _ _ (by rw [← N.out]; omega), N.out]
    refine ⟨some ⟨g, 0, none⟩, c, rfl, ?_, hb2.trans hb3⟩
    refine .inr ⟨flat_len At.enc_len _, .inr ⟨g, c, C3, by rw [e], hbg, HG3.out, by rw [← e]; exact hc, hcm', HS3.out, by rw [← e]; exact HT3.out⟩⟩
end Go.Proofs.Ytfnkjcodcoehcaa
