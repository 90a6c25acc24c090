/- Merged texts: Insert, With, AttrsLaw, Tell. -/
import Derived.Lib.AppendZeros
import Derived.Deep.RegionLaw
import Derived.Laws.CopyOwn
import Derived.Test.YtbdkbfoplpociaaGreatDoorK15
import Derived.Test.YtbdkbfoplpociaaGreatDoorB1
import Derived.Deep.RegionHeld3
import Derived.Test.YtbdkbfoplpociaaGreatDoorK12
import Derived.Test.YtbdkbfoplpociaaGreatDoorK16
import Derived.Test.YtbdkbfoplpociaaGreatDoorK11
import Derived.Test.YtbdkbfoplpociaaGreatDoorK26
import Derived.Test.YtbdkbfoplpociaaGreatDoorK19
namespace Go.Proofs.YtbdkbfoplpociaaGreatDoor
open Go.RowKit
set_option linter.unusedVariables false
set_option linter.unusedSimpArgs false

theorem Tryz.undInt' : Tryz.prog.underlying 3 = some (.int .i64) := by kernel_rfl
theorem take_app2 {α : Type} (A B R : List α) (n : Nat) (h : n = A.length + B.length) : (A ++ B ++ R).take n = A ++ B := by
  subst h
  rw [← List.length_append, List.take_left]
def insP (l : List At) (i : Nat) (a : At) : List At := l.take i ++ a :: l.drop i
theorem insP_len (l : List At) (i : Nat) (a : At) (h : i ≤ l.length) : (insP l i a).length = l.length + 1 := by
  simp [insP]; omega
theorem insP_flat (l : List At) (i : Nat) (a : At) : (insP l i a).flatMap At.enc = (l.take i).flatMap At.enc ++ (a.enc ++ (l.drop i).flatMap At.enc) := by
  simp [insP, List.flatMap_append, List.flatMap_cons]

/-- at the end -/
theorem insert_end (A : Option Addr) (n c base gv : Nat) (l : List At) (x1 x2 x3 x4 : Int) (x5 : ByteArray) (w : World) (hown : OwAt w base (.slice A n c) l) (hn : n = l.length) (hb : n ≤ 100000000) (hbase : base ≤ w.heap.size)
    (hv : w.heap[gv]? = some (.cells #[.int .i64 x1, .int .u8 x2, .int .i64 x3, .int .u64 x4, .string x5] 53 (0, 0))) :
    Calls Tryz.prog 247 #[.slice A n c, .int .i64 (n : Int), .slice (some ⟨gv, 0, none⟩) 1 1] w fun e w' =>
      ∃ A' c', e = .returned (.slice A' (n + 1) c') ∧ OwAt w' base (.slice A' (n + 1) c') (insP l n ⟨x1, ⟨x2, x3, x4, x5⟩⟩) ∧ Below base w w' := by
  have N := Lib.hid hn
  have hcap := hown.cap
  have hlc : n ≤ c := by rw [hn]; exact hcap.1
  have hcm : c ≤ 2 ^ 63 - 1 := hcap.2
  clear hn hcap
  have hrd : RdAt w w.heap.size (some ⟨gv, 0, none⟩) [⟨x1, ⟨x2, x3, x4, x5⟩⟩] := by
    intro _
    refine ⟨_, rfl, blk_lt hv, fun i hi j u hu => ?_⟩
    have hi0 : i = 0 := by simpa using hi
    subst hi0
    rw [Nat.zero_mul, add_zero', add_row]
    simp only [World.cell?, hv]
    simpa [At.enc] using hu
  have hz : ((1 : Int) == 0) = false := rfl
  rcases Nat.lt_or_ge n c with hnc | hnc
  · have hne : ¬ c = n := by omega
    go_enter Tryz.func247, Tryz.ntmps247
    go_wp2_with (at_builtin; refine app_at (m := [⟨x1, ⟨x2, x3, x4, x5⟩⟩]) rfl (.tmp 23) (.tmp 24) rfl rfl (by exact hown) _ _ 1 1 rfl rfl (by exact hrd) (by have := N.out; simp only [List.length_singleton]; omega) hbase ?_; intro v' w' hown' hgr hv')
    obtain ⟨A', c', hvv, _, _⟩ := hown'.form
    subst hvv
    have e : l ++ [⟨x1, ⟨x2, x3, x4, x5⟩⟩] = insP l n ⟨x1, ⟨x2, x3, x4, x5⟩⟩ := by
      rw [N.out]; simp [insP]
    have el : (l ++ [(⟨x1, ⟨x2, x3, x4, x5⟩⟩ : At)]).length = n + 1 := by rw [N.out]; simp
    rw [el] at hown' ⊢
    rw [e] at hown'
    go_ret
    exact ⟨A', c', rfl, hown', (Below.refl _ _).grown hgr hbase (fun k hk => (hown.wb_lt k hk).1)⟩
  · have hce : c = n := by omega
    subst hce
    go_enter Tryz.func247, Tryz.ntmps247
    go_wp2_with (at_builtin; refine app_at (m := [⟨x1, ⟨x2, x3, x4, x5⟩⟩]) rfl (.tmp 23) (.tmp 24) rfl rfl (by exact hown) _ _ 1 1 rfl rfl (by exact hrd) (by have := N.out; simp only [List.length_singleton]; omega) hbase ?_; intro v' w' hown' hgr hv')
    obtain ⟨A', c', hvv, _, _⟩ := hown'.form
    subst hvv
    have e : l ++ [⟨x1, ⟨x2, x3, x4, x5⟩⟩] = insP l c ⟨x1, ⟨x2, x3, x4, x5⟩⟩ := by
      rw [N.out]; simp [insP]
    have el : (l ++ [(⟨x1, ⟨x2, x3, x4, x5⟩⟩ : At)]).length = c + 1 := by rw [N.out]; simp
    rw [el] at hown' ⊢
    rw [e] at hown'
    go_ret
    exact ⟨A', c', rfl, hown', (Below.refl _ _).grown hgr hbase (fun k hk => (hown.wb_lt k hk).1)⟩

set_option maxRecDepth 100000 in
set_option maxHeartbeats 1000000 in
/-- within, where a new row is wanted -/
theorem insert_grow (A : Option Addr) (n c base gv i : Nat) (l : List At) (x1 x2 x3 x4 : Int) (x5 : ByteArray) (w : World) (hown : OwAt w base (.slice A n c) l) (hn : n = l.length) (hb : n ≤ 100000000) (hbase : base ≤ w.heap.size)
    (hv : w.heap[gv]? = some (.cells #[.int .i64 x1, .int .u8 x2, .int .i64 x3, .int .u64 x4, .string x5] 53 (0, 0))) (hi : i < n) (hc : c < n + 1) :
    Calls Tryz.prog 247 #[.slice A n c, .int .i64 (i : Int), .slice (some ⟨gv, 0, none⟩) 1 1] w fun e w' =>
      ∃ A' c', e = .returned (.slice A' (n + 1) c') ∧ OwAt w' base (.slice A' (n + 1) c') (insP l i ⟨x1, ⟨x2, x3, x4, x5⟩⟩) ∧ Below base w w' := by
  have N := Lib.hid hn
  obtain ⟨g, cur, rfl, -, hbg, hg, hlc, hcm, hcur, htake⟩ := hown.row (by omega)
  obtain rfl : c = n := by omega
  obtain ⟨i0, hi0, hz0, hz1, hz2⟩ := info_parts Tryz.infoAt
  have hgl := blk_lt hg
  have hvl := blk_lt hv
  have hflat := flat_len At.enc_len l
  have hsrc : ∀ j u, (l.flatMap At.enc)[j]? = some u → w.cell? ⟨g, j, none⟩ = some u := by
    intro j u hu
    rw [← htake, List.getElem?_take] at hu
    split at hu
    · simp only [World.cell?, hg]; simpa using hu
    · cases hu
  obtain ⟨m, hm⟩ : ∃ m, m = c + 1 - i := ⟨_, rfl⟩
  have hrun := run_append_zeros_grow (P := Tryz.prog) w 38 3 38 53 i0 _ .i64 .i64 Tryz.slAt Tryz.undInt' hi0 hz0 ⟨g, 0, none⟩ i c m ((l.take i).flatMap At.enc) (by rw [flat_len At.enc_len, List.length_take, hz1]; congr 1; omega)
    (fun j u hu => by rw [add_row]; exact hsrc j u (by rw [← flat_take At.enc_len] at hu; rw [List.getElem?_take] at hu; split at hu; exact hu; cases hu)) (by omega) (by omega) (by omega) (by omega) (by omega)
  have him : i + m = c + 1 := by omega
  rw [him] at hrun
  have hge := grownCap_ge w (c + 1) c 53
  have hcm1 : grownCap w (c + 1) c 53 ≤ maxLen := grownCap_le_maxLen w (c + 1) c _ (by simp only [maxLen]; omega)
  generalize grownCap w (c + 1) c 53 = k1 at *
  have hzc : (Builtin.zeroCells (At.val ⟨0, V.zero⟩).cells m).size = m * 5 := size_zeroCells _ _
  have hzc2 : (Builtin.zeroCells (At.val ⟨0, V.zero⟩).cells (k1 - (c + 1))).size = (k1 - (c + 1)) * 5 := size_zeroCells _ _
  generalize Builtin.zeroCells (At.val ⟨0, V.zero⟩).cells m = Z1 at *
  generalize Builtin.zeroCells (At.val ⟨0, V.zero⟩).cells (k1 - (c + 1)) = Z2 at *
  have hT : ((l.take i).flatMap At.enc).length = i * 5 := by rw [flat_len At.enc_len, List.length_take]; congr 1; omega
  have hD : ((l.drop i).flatMap At.enc).length = (c - i) * 5 := by rw [flat_len At.enc_len, List.length_drop]; congr 1; omega
  obtain ⟨C1, hC1⟩ : ∃ C1, C1 = ((l.take i).flatMap At.enc).toArray ++ Z1 ++ Z2 := ⟨_, rfl⟩
  rw [← hC1] at hrun
  have hC1l : C1.toList = (l.take i).flatMap At.enc ++ (Z1.toList ++ Z2.toList) := by rw [hC1]; simp
  have hC1s : C1.size = k1 * 5 := by rw [← Array.length_toList, hC1l]; simp only [List.length_append, hT, Array.length_toList, hzc, hzc2]; omega
  obtain ⟨w1, hw1⟩ : ∃ w1, w1 = w.drew.alloc (.cells C1 53) := ⟨_, rfl⟩
  rw [← hw1] at hrun
  have hb1 : Below w.heap.size w w1 := by rw [hw1]; exact (Below.refl _ _).drew.alloc (Nat.le_refl _) _
  have hg1 : w1.heap[w.heap.size]? = some (.cells C1 53 (0, 0)) := by rw [hw1]; exact heap_alloc_new w.drew _
  have hgo : w1.heap[g]? = some (.cells cur 53 (0, 0)) := (hb1.block g hgl).trans hg
  have hvo := (hb1.block gv hvl).trans hv
  clear hw1 hC1
  -- the first copy
  have hmin1 : Nat.min 1 (c + 1 - i) = 1 := by simp only [Nat.min_def]; split <;> omega
  have hcp1 := run_copy_onto (P := Tryz.prog) w1 38 38 3 53 i0 5 Tryz.slAt hi0 hz1 w.heap.size (i * 5) (c + 1 - i) (k1 - i) ⟨gv, 0, none⟩ 1 1 C1 _ (At.enc ⟨x1, ⟨x2, x3, x4, x5⟩⟩) hg1 (by rw [hmin1]; rfl)
    (fun j u hu => by rw [add_row]; simp only [World.cell?, hvo]; simpa [At.enc] using hu) (by rw [hC1s, At.enc_len]; omega) (At.enc_one _)
  have hne1 : ¬ c = i := by omega
  have hne2 : ¬ k1 = i := by omega
  have hmi : (c : Int) + 1 - (i : Int) = (m : Int) := by omega
  have hcp1' : ∃ w2 C2, (Builtin.copy_ #[38, 38] 3 #[.slice (some ⟨w.heap.size, i * 5, none⟩) (c + 1 - i) (k1 - i), .slice (some ⟨gv, 0, none⟩) 1 1]).run Tryz.prog w1 = .ok (goInt 1) w2 ∧
      w2.heap[w.heap.size]? = some (.cells C2 53 (0, 0)) ∧ Below w.heap.size w1 w2 ∧ C2.size = k1 * 5 ∧ C2.toList.take ((i + 1) * 5) = (l.take i).flatMap At.enc ++ At.enc ⟨x1, ⟨x2, x3, x4, x5⟩⟩ := by
    rw [hmin1] at hcp1
    refine ⟨_, _, hcp1, setRow_heap w1 _ C1 _ _ _ hg1, below_setRow (Below.refl _ _) (Nat.le_refl _) _, ?_, ?_⟩
    · simp only [List.size_toArray, List.length_append, List.length_take, List.length_drop, Array.length_toList, At.enc_len, hC1s]
      omega
    · have e1 : C1.toList.take (i * 5) = (l.take i).flatMap At.enc := by rw [hC1l, ← hT, List.take_left]
      rw [e1, take_app2 _ _ _ _ (by rw [hT, At.enc_len]; omega)]
  obtain ⟨w2, C2, hr2, hg2, hb2, hs2, ht2⟩ := hcp1'
  have hgo2 : w2.heap[g]? = some (.cells cur 53 (0, 0)) := (hb2.block g hgl).trans hgo
  have hmin2 : Nat.min (c - i) (c + 1 - (i + 1)) = c - i := by simp only [Nat.min_def]; split <;> omega
  have hcp2 := run_copy_onto (P := Tryz.prog) w2.drew 38 38 3 53 i0 5 Tryz.slAt hi0 hz1 w.heap.size ((i + 1) * 5) (c + 1 - (i + 1)) (k1 - (i + 1)) ⟨g, i * 5, none⟩ (c - i) (c - i) C2 _ ((l.drop i).flatMap At.enc) hg2 (by rw [hmin2]; exact hD)
    (fun j u hu => by
      rw [← flat_drop At.enc_len, List.getElem?_drop] at hu
      have hu' := hu
      rw [← htake, List.getElem?_take] at hu'
      split at hu'
      · simp only [Addr.add]
        split
        · rename_i h0; rw [h0, Nat.add_zero] at hu'
          simp only [World.cell?]
          rw [show w2.drew.heap[g]? = _ from hgo2]; simpa using hu'
        · simp only [World.cell?]
          rw [show w2.drew.heap[g]? = _ from hgo2]; simpa using hu'
      · cases hu') (by rw [hD, hs2]; omega) (fun u hu => by obtain ⟨y, _, hy⟩ := List.mem_flatMap.1 hu; exact At.enc_one y u hy)
  have hcp2' : ∃ w3 C3, (Builtin.copy_ #[38, 38] 3 #[.slice (some ⟨w.heap.size, (i + 1) * 5, none⟩) (c + 1 - (i + 1)) (k1 - (i + 1)), .slice (some ⟨g, i * 5, none⟩) (c - i) (c - i)]).run Tryz.prog w2.drew = .ok (goInt ((c - i : Nat) : Int)) w3 ∧
      w3.heap[w.heap.size]? = some (.cells C3 53 (0, 0)) ∧ Below w.heap.size w2 w3 ∧ C3.size = k1 * 5 ∧ C3.toList.take ((c + 1) * 5) = (insP l i ⟨x1, ⟨x2, x3, x4, x5⟩⟩).flatMap At.enc := by
    rw [hmin2] at hcp2
    refine ⟨_, _, hcp2, setRow_heap w2.drew _ C2 _ _ _ hg2, below_setRow (Below.refl _ _).drew (Nat.le_refl _) _, ?_, ?_⟩
    · simp only [List.size_toArray, List.length_append, List.length_take, List.length_drop, Array.length_toList, hD, hs2]
      omega
    · rw [ht2, insP_flat]
      rw [take_app2 _ _ _ _ (by rw [List.length_append, hT, hD, At.enc_len]; omega), List.append_assoc]
  obtain ⟨w3, C3, hr3, hg3, hb3, hs3, ht3⟩ := hcp2'
  have H1 := Lib.hid hrun
  have H2 := Lib.hid hr2
  have H3 := Lib.hid hr3
  have HG3 := Lib.hid hg3
  have HT3 := Lib.hid ht3
  have HS3 := Lib.hid hs3
  have HGE := Lib.hid hge
  have hicf : ((i : Int) == (c : Int)) = false := beq_eq_false_iff_ne.2 (by omega)
  have hwi : IntKind.i64.wrap ((i : Int) + 1) = (i : Int) + 1 := IntWalk.i64_in _ (by simp only [maxLen] at hcm; omega)
  have hti : ((i : Int) + 1).toNat = i + 1 := by omega
  have hpi : (0 : Int) ≤ (i : Int) + 1 := by omega
  have hne3 : ¬ k1 = i + 1 := by omega
  have hic1 : i + 1 ≤ c + 1 := by omega
  have hic2 : i ≤ c := by omega
  have hic3 : i < c + 1 := by omega
  have hcm' : c ≤ 2 ^ 63 - 1 := hcm
  have hkm' : k1 ≤ 2 ^ 63 - 1 := hcm1
  clear hrun hcp1 hcp2 hr2 hr3 hm htake hflat hsrc hn hg3 ht3 hs3 hmin1 hmin2 hT hD hC1l hC1s hzc hzc2 hge hcm hcm1 him hlc hcur ht2 hs2 hg2 hgo2 hg1 hgo hvo hg hv
  go_enter Tryz.func247, Tryz.ntmps247
  go_wp2_with (first
    | (at_builtin; refine Lib.wpList_append_run _ rfl (.tmp 34) (.tmp 39) _ _ rfl _ _ rfl rfl _ _ H1.out ?_)
    | (refine wpList_copy_run rfl (.tmp 43) (.tmp 44) _ _ rfl _ _ rfl rfl _ _ H2.out ?_))
  go_region_law (refine step_copy_run rfl (.tmp 50) (.tmp 53) _ _ rfl _ _ (by simp [Act.eval, Act.put]) (by simp [Act.eval, Act.put]) _ _ H3.out ?_)
  all_goals go_wp2_with (fail)
  all_goals
    go_ret
    have e : c + 1 = (insP l i ⟨x1, ⟨x2, x3, x4, x5⟩⟩).length := by rw [insP_len _ _ _ (by rw [← N.out]; omega), N.out]
    refine ⟨some ⟨w.heap.size, 0, none⟩, k1, rfl, ?_, ((hb1.trans hb2).trans hb3).mono hbase⟩
    refine .inr ⟨flat_len At.enc_len _, .inr ⟨w.heap.size, k1, C3, by rw [e], hbase, HG3.out, by rw [← e]; exact HGE.out, hkm', HS3.out, by rw [← e]; exact HT3.out⟩⟩

set_option maxRecDepth 100000 in
set_option maxHeartbeats 1000000 in
/-- within, where there is room -/
theorem insert_room (A : Option Addr) (n c base gv i : Nat) (l : List At) (x1 x2 x3 x4 : Int) (x5 : ByteArray) (w : World) (hown : OwAt w base (.slice A n c) l) (hn : n = l.length) (hb : n ≤ 100000000) (hbase : base ≤ w.heap.size)
    (hv : w.heap[gv]? = some (.cells #[.int .i64 x1, .int .u8 x2, .int .i64 x3, .int .u64 x4, .string x5] 53 (0, 0))) (hi : i < n) (hc : n + 1 ≤ c) (hne : wb (.slice A n c) ≠ some gv) :
    Calls Tryz.prog 247 #[.slice A n c, .int .i64 (i : Int), .slice (some ⟨gv, 0, none⟩) 1 1] w fun e w' =>
      ∃ A' c', e = .returned (.slice A' (n + 1) c') ∧ OwAt w' base (.slice A' (n + 1) c') (insP l i ⟨x1, ⟨x2, x3, x4, x5⟩⟩) ∧ Below base w w' := by
  have N := Lib.hid hn
  obtain ⟨g, cur, rfl, -, hbg, hg, hlc, hcm, hcur, htake⟩ := hown.row (by omega)
  obtain ⟨i0, hi0, hz0, hz1, hz2⟩ := info_parts Tryz.infoAt
  have hgl := blk_lt hg
  have hvl := blk_lt hv
  have hgv : gv ≠ g := by
    intro e
    subst e
    cases c with
    | zero => omega
    | succ c => exact hne rfl
  have hT : ((l.take i).flatMap At.enc).length = i * 5 := by rw [flat_len At.enc_len, List.length_take]; congr 1; omega
  have hD : ((l.drop i).flatMap At.enc).length = (n - i) * 5 := by rw [flat_len At.enc_len, List.length_drop]; congr 1; omega
  have hz : ∀ w, (sizeOf 53).run Tryz.prog w = .ok 5 w := fun w => by simp [sizeOf, typeInfo, hi0, hz1]
  have hov : ∀ W lb cb, W.heap[g]? = some (.cells cur 53 (0, 0)) → W.heap[gv]? = some (.cells #[.int .i64 x1, .int .u8 x2, .int .i64 x3, .int .u64 x4, .string x5] 53 (0, 0)) →
      (callFunc 265 #[.slice (some ⟨gv, 0, none⟩) 1 1, .slice (some ⟨g, (i + 1) * 5, none⟩) lb cb]).run Tryz.prog W = .ok (.value (.bool false)) W := fun W lb cb hWg hWv => by
    rw [run_callFunc_extern Tryz.func265 (by kernel_rfl) (by kernel_rfl) (by kernel_rfl) (e := Extern.SlicesOverlaps.overlaps #[38, 38] #[4]) (by kernel_rfl),
      Lib.run_overlaps_apart W 38 4 53 Tryz.slAt 5 hz ⟨gv, 0, none⟩ ⟨g, (i + 1) * 5, none⟩ 1 1 lb cb hgv 53 53 5 (c * 5) (by simp [World.shape?, hWv]) (by simp [World.shape?, hWg, hcur]) (by omega) (by simp [World.frozen?, hWv]) (by simp [World.frozen?, hWv])]
    rfl
  have hmin1 : Nat.min (n + 1 - i) (n + 1 - (i + 1)) = n - i := by simp only [Nat.min_def]; split <;> omega
  have hmin2 : Nat.min 1 (n + 1 - i) = 1 := by simp only [Nat.min_def]; split <;> omega
  have hcp1 := run_copy_onto (P := Tryz.prog) w.drew 38 38 3 53 i0 5 Tryz.slAt hi0 hz1 g ((i + 1) * 5) (n + 1 - (i + 1)) (c - (i + 1)) ⟨g, i * 5, none⟩ (n + 1 - i) (c - i) cur _ ((l.drop i).flatMap At.enc) hg (by rw [hmin1]; exact hD)
    (fun j u hu => by
      rw [← flat_drop At.enc_len, List.getElem?_drop] at hu
      have hu' := hu
      rw [← htake, List.getElem?_take] at hu'
      split at hu'
      · simp only [Addr.add]
        split
        · rename_i h0; rw [h0, Nat.add_zero] at hu'
          simp only [World.cell?]
          rw [show w.drew.heap[g]? = _ from hg]; simpa using hu'
        · simp only [World.cell?]
          rw [show w.drew.heap[g]? = _ from hg]; simpa using hu'
      · cases hu') (by rw [hD, hcur]; omega) (fun u hu => by obtain ⟨y, _, hy⟩ := List.mem_flatMap.1 hu; exact At.enc_one y u hy)
  have hTc : cur.toList.take (i * 5) = (l.take i).flatMap At.enc := by rw [← flat_take At.enc_len, ← htake, List.take_take, Nat.min_eq_left (by omega)]
  have hcp1' : ∃ w2 C2, (Builtin.copy_ #[38, 38] 3 #[.slice (some ⟨g, (i + 1) * 5, none⟩) (n + 1 - (i + 1)) (c - (i + 1)), .slice (some ⟨g, i * 5, none⟩) (n + 1 - i) (c - i)]).run Tryz.prog w.drew = .ok (goInt ((n - i : Nat) : Int)) w2 ∧
      w2.heap[g]? = some (.cells C2 53 (0, 0)) ∧ Below base w w2 ∧ w2.heap[gv]? = w.heap[gv]? ∧ C2.size = c * 5 ∧ C2.toList.take (i * 5) = (l.take i).flatMap At.enc ∧ (C2.toList.drop ((i + 1) * 5)).take ((n - i) * 5) = (l.drop i).flatMap At.enc := by
    rw [hmin1] at hcp1
    refine ⟨_, _, hcp1, setRow_heap w.drew _ cur _ _ _ hg, below_setRow (Below.refl _ _).drew hbg _, setRow_other w.drew g gv _ hgv, ?_, ?_, ?_⟩
    · simp only [List.size_toArray, List.length_append, List.length_take, List.length_drop, Array.length_toList, hD, hcur]
      omega
    · have hlt : (cur.toList.take ((i + 1) * 5)).length = (i + 1) * 5 := by rw [List.length_take, Array.length_toList, hcur]; omega
      simp only [List.append_assoc]
      rw [List.take_append, hlt, List.take_take, Nat.min_eq_left (by omega), hTc, Nat.sub_eq_zero_of_le (by omega), List.take_zero, List.append_nil]
    · have hlt : (cur.toList.take ((i + 1) * 5)).length = (i + 1) * 5 := by rw [List.length_take, Array.length_toList, hcur]; omega
      simp only [List.append_assoc]
      rw [List.drop_append, hlt, Nat.sub_self, List.drop_zero, List.drop_of_length_le (by omega), List.nil_append, ← hD, List.take_left]
  obtain ⟨w2, C2, hr2, hg2, hb2, hvk, hs2, ht2, hd2⟩ := hcp1'
  have hv2 := hvk.trans hv
  have hcp2 := run_copy_onto (P := Tryz.prog) w2 38 38 3 53 i0 5 Tryz.slAt hi0 hz1 g (i * 5) (n + 1 - i) (c - i) ⟨gv, 0, none⟩ 1 1 C2 _ (At.enc ⟨x1, ⟨x2, x3, x4, x5⟩⟩) hg2 (by rw [hmin2]; rfl)
    (fun j u hu => by rw [add_row]; simp only [World.cell?, hv2]; simpa [At.enc] using hu) (by rw [hs2, At.enc_len]; omega) (At.enc_one _)
  have hcp2' : ∃ w3 C3, (Builtin.copy_ #[38, 38] 3 #[.slice (some ⟨g, i * 5, none⟩) (n + 1 - i) (c - i), .slice (some ⟨gv, 0, none⟩) 1 1]).run Tryz.prog w2 = .ok (goInt 1) w3 ∧
      w3.heap[g]? = some (.cells C3 53 (0, 0)) ∧ Below base w2 w3 ∧ C3.size = c * 5 ∧ C3.toList.take ((n + 1) * 5) = (insP l i ⟨x1, ⟨x2, x3, x4, x5⟩⟩).flatMap At.enc := by
    rw [hmin2] at hcp2
    refine ⟨_, _, hcp2, setRow_heap w2 _ C2 _ _ _ hg2, below_setRow (Below.refl _ _) hbg _, ?_, ?_⟩
    · simp only [List.size_toArray, List.length_append, List.length_take, List.length_drop, Array.length_toList, At.enc_len, hs2]
      omega
    · rw [ht2, insP_flat, List.take_append, List.take_of_length_le (by rw [List.length_append, hT, At.enc_len]; omega), List.length_append, hT, At.enc_len]
      have e1 : (n + 1) * 5 - (i * 5 + 5) = (n - i) * 5 := by omega
      have e2 : i * 5 + 5 = (i + 1) * 5 := by omega
      rw [e1, e2, hd2, List.append_assoc]
  obtain ⟨w3, C3, hr3, hg3, hb3, hs3, ht3⟩ := hcp2'
  have HOV := Lib.hid (hov w)
  have hov' : ∀ lb cb, (callFunc 265 #[.slice (some ⟨gv, 0, none⟩) 1 1, .slice (some ⟨g, (i + 1) * 5, none⟩) lb cb]).run Tryz.prog w = .ok (.value (.bool false)) w := fun lb cb => hov w lb cb hg hv
  have H2 := Lib.hid hr2
  have H3 := Lib.hid hr3
  have HG3 := Lib.hid hg3
  have HT3 := Lib.hid ht3
  have HS3 := Lib.hid hs3
  have hicf : ((i : Int) == (n : Int)) = false := beq_eq_false_iff_ne.2 (by omega)
  have hcm' : c ≤ 2 ^ 63 - 1 := hcm
  have hwi : IntKind.i64.wrap ((i : Int) + 1) = (i : Int) + 1 := IntWalk.i64_in _ (by simp only [maxLen] at hcm; omega)
  have hti : ((i : Int) + 1).toNat = i + 1 := by omega
  have hpi : (0 : Int) ≤ (i : Int) + 1 := by omega
  have hne1 : ¬ c = i := by omega
  have hne3 : ¬ c = i + 1 := by omega
  have hic2 : i ≤ n := by omega
  have hic3 : i < n + 1 := by omega
  have hic1 : i + 1 ≤ n + 1 := by omega
  have hge : ¬ ((c : Int) < (n : Int) + 1) := by omega
  have hin1 : (i : Int) ≤ (n : Int) + 1 := by omega
  clear hcp1 hcp2 hr2 hr3 htake hn hg3 ht3 hs3 hmin1 hmin2 hT hD hcm hlc hcur ht2 hs2 hg2 hd2 hvk hv2 hg hv hov hz hne hTc
  go_enter Tryz.func247, Tryz.ntmps247
  go_wp2_with (simp only [hov'])
  go_region_law (refine step_copy_run rfl (.tmp 73) (.tmp 76) _ _ rfl _ _ (by simp [Act.eval, Act.put]) (by simp [Act.eval, Act.put]) _ _ H2.out ?_)
  all_goals go_wp2_with (refine wpList_copy_run rfl (.tmp 80) (.tmp 81) _ _ rfl _ _ rfl rfl _ _ H3.out ?_)
  all_goals
    go_ret
    have e : n + 1 = (insP l i ⟨x1, ⟨x2, x3, x4, x5⟩⟩).length := by rw [insP_len _ _ _ (by rw [← N.out]; omega), N.out]
    refine ⟨some ⟨g, 0, none⟩, c, rfl, ?_, hb2.trans hb3⟩
    refine .inr ⟨flat_len At.enc_len _, .inr ⟨g, c, C3, by rw [e], hbg, HG3.out, by rw [← e]; exact hc, hcm', HS3.out, by rw [← e]; exact HT3.out⟩⟩
end Go.Proofs.YtbdkbfoplpociaaGreatDoor
namespace Go.Proofs.YtbdkbfoplpociaaGreatDoor
open Go.RowKit
set_option linter.unusedVariables false
set_option linter.unusedSimpArgs false

theorem insert_any (A : Option Addr) (n c base gv i : Nat) (l : List At) (x1 x2 x3 x4 : Int) (x5 : ByteArray) (w : World) (hown : OwAt w base (.slice A n c) l) (hn : n = l.length) (hb : n ≤ 100000000) (hbase : base ≤ w.heap.size)
    (hv : w.heap[gv]? = some (.cells #[.int .i64 x1, .int .u8 x2, .int .i64 x3, .int .u64 x4, .string x5] 53 (0, 0))) (hi : i ≤ n) (hne : wb (.slice A n c) ≠ some gv) :
    Calls Tryz.prog 247 #[.slice A n c, .int .i64 (i : Int), .slice (some ⟨gv, 0, none⟩) 1 1] w fun e w' =>
      ∃ A' c', e = .returned (.slice A' (n + 1) c') ∧ OwAt w' base (.slice A' (n + 1) c') (insP l i ⟨x1, ⟨x2, x3, x4, x5⟩⟩) ∧ Below base w w' := by
  rcases Nat.eq_or_lt_of_le hi with rfl | hlt
  · exact insert_end A i c base gv l x1 x2 x3 x4 x5 w hown hn hb hbase hv
  · rcases Nat.lt_or_ge c (n + 1) with h | h
    · exact insert_grow A n c base gv i l x1 x2 x3 x4 x5 w hown hn hb hbase hv hlt h
    · exact insert_room A n c base gv i l x1 x2 x3 x4 x5 w hown hn hb hbase hv hlt h hne

def withP (l : List At) (a : At) : List At := applyP [⟨a.key, false, a.v⟩] l
theorem tw_take (p : At → Bool) (l : List At) (i : Nat) (h1 : ∀ x a, x < i → l[x]? = some a → p a = true) (h2 : ∀ a, l[i]? = some a → p a = false) : l.takeWhile p = l.take i ∧ l.dropWhile p = l.drop i := by
  induction l generalizing i with
  | nil => simp
  | cons a l ih =>
    cases i with
    | zero => have := h2 a rfl; simp [List.takeWhile_cons, List.dropWhile_cons, this]
    | succ i =>
      have ha := h1 0 a (by omega) rfl
      obtain ⟨e1, e2⟩ := ih i (fun x b hx hb => h1 (x + 1) b (by omega) (by rw [List.getElem?_cons_succ]; exact hb)) (fun b hb => h2 b (by rw [List.getElem?_cons_succ]; exact hb))
      simp [List.takeWhile_cons, List.dropWhile_cons, ha, e1, e2]
theorem withP_at {l : List At} {a : At} {i : Nat} {b : Bool} (h : FindOut l a.key i b) (hr : riseA l = true) : withP l a = if b = true then l.set i a else insP l i a := by
  obtain ⟨h1, h2, h3⟩ := h
  obtain ⟨h4, h5⟩ := h3 hr
  obtain ⟨e1, e2⟩ := tw_take (fun x => decide (x.key < a.key)) l i (fun x y hx hy => by simpa using h4 x y hx hy) (fun y hy => by have := h5 i y (Nat.le_refl _) hy; simp; omega)
  have e : withP l a = l.takeWhile (fun x => decide (x.key < a.key)) ++ ([a] ++ drop1 a.key (l.dropWhile (fun x => decide (x.key < a.key)))) := by
    simp [withP, applyP, put1]
  rw [e, e1, e2]
  cases b with
  | true =>
    obtain ⟨y, hy, hk⟩ := h2.1 rfl
    have hi : i < l.length := (List.getElem?_eq_some_iff.1 hy).1
    have hd : l.drop i = y :: l.drop (i + 1) := by
      rw [List.drop_eq_getElem_cons hi]
      have := (List.getElem?_eq_some_iff.1 hy).2
      rw [this]
    rw [if_pos rfl, List.set_eq_take_append_cons_drop, if_pos hi, hd]
    simp [drop1, hk]
  | false =>
    rw [if_neg (by simp)]
    have hd : drop1 a.key (l.drop i) = l.drop i := by
      cases hl : l.drop i with
      | nil => rfl
      | cons y t =>
        have hy : l[i]? = some y := by
          have := congrArg (fun t => t[0]?) hl
          simpa [List.getElem?_drop] using this
        have : ¬ y.key = a.key := fun hk => by have := h2.2 ⟨y, hy, hk⟩; cases this
        simp [drop1, this]
    rw [hd]
    rfl

theorem up_alloc {a b : World} (h : Below a.heap.size a b) (o : Obj) : Below a.heap.size a (b.alloc o) := ext_trans h (ext_alloc b o)
theorem clone_n (A : Option Addr) (n c : Nat) (l : List At) (w0 w : World) (hn : n = l.length) (h : RdAt w0 w0.heap.size A l) (hb : n ≤ 10000000) (hw : Below w0.heap.size w0 w) :
    Calls Tryz.prog 202 #[.slice A n c] w fun e w' => ∃ A' c', e = .returned (.slice A' n c') ∧ OwAt w' w.heap.size (.slice A' n c') l ∧ Below w0.heap.size w0 w' ∧ Below w.heap.size w w' := by
  subst hn
  refine (cloneAt_any A l.length c l w rfl (h.ext hw) (by omega)).mono ?_
  rintro e w2 ⟨A2, c2, rfl, ho, hb2⟩
  exact ⟨A2, c2, rfl, ho, ext_trans hw hb2, hb2⟩

theorem insert_n (A : Option Addr) (n c base gv i : Nat) (l : List At) (x1 x2 x3 x4 : Int) (x5 : ByteArray) (w0 w1 w : World) (hown : OwAt w base (.slice A n c) l) (hn : n = l.length) (hb : n ≤ 10000000) (hlo : w1.heap.size ≤ base) (hbase : base ≤ w.heap.size)
    (hv : w.heap[gv]? = some (.cells #[.int .i64 x1, .int .u8 x2, .int .i64 x3, .int .u64 x4, .string x5] 53 (0, 0))) (hi : i ≤ n) (hne : wb (.slice A n c) ≠ some gv) (h0 : Below w0.heap.size w0 w1) (h1 : Below w1.heap.size w1 w) :
    Calls Tryz.prog 247 #[.slice A n c, .int .i64 (i : Int), .slice (some ⟨gv, 0, none⟩) 1 1] w fun e w' =>
      ∃ A' c', e = .returned (.slice A' (n + 1) c') ∧ OwAt w' w0.heap.size (.slice A' (n + 1) c') (insP l i ⟨x1, ⟨x2, x3, x4, x5⟩⟩) ∧ Below w0.heap.size w0 w' ∧ Below w1.heap.size w1 w' := by
  refine (insert_any A n c base gv i l x1 x2 x3 x4 x5 w hown hn (by omega) hbase hv hi hne).mono ?_
  rintro e w3 ⟨A3, c3, rfl, ho3, hb3⟩
  exact ⟨A3, c3, rfl, ho3.base_le (Nat.le_trans h0.size hlo), ext_trans h0 (h1.trans (hb3.mono hlo)), h1.trans (hb3.mono hlo)⟩

/-- what attrs.With answers -/
def WithOut (l : List At) (a : At) (w : World) (e : Ending) (w' : World) : Prop :=
  ∃ r, (riseA l = true → r = withP l a) ∧ r.length ≤ l.length + 1 ∧ NewAt r w e w'

set_option maxRecDepth 100000 in
set_option maxHeartbeats 1000000 in
theorem with_any (A : Option Addr) (n c : Nat) (l : List At) (x1 x2 x3 x4 : Int) (x5 : ByteArray) (w : World) (hn : n = l.length) (h : RdAt w w.heap.size A l) (hb : n ≤ 10000000) :
    Calls Tryz.prog 215 #[.slice A n c, .agg #[.int .i64 x1, .int .u8 x2, .int .i64 x3, .int .u64 x4, .string x5]] w (WithOut l ⟨x1, ⟨x2, x3, x4, x5⟩⟩ w) := by
  have N := Lib.hid hn
  clear hn
  go_enter Tryz.func215, Tryz.ntmps215
  go_wp2_with (go_at_call 246; refine Hid.out ?_)
  refine Lib.hid ?_
  have y := ext_alloc w (.cells #[.int .i64 x1, .int .u8 x2, .int .i64 x3, .int .u64 x4, .string x5] 53)
  have hbx0 := heap_alloc_new w (.cells #[.int .i64 x1, .int .u8 x2, .int .i64 x3, .int .u64 x4, .string x5] 53)
  refine (find_any A n c l x1 _ N.out (h.ext y) (by omega)).mono ?_
  rintro e w1 ⟨i, b, rfl, hf, hb1⟩
  have hbx1 := (hb1.block w.heap.size (blk_lt hbx0)).trans hbx0
  have hbw := ext_trans y hb1
  have r1 := h.ext hbw
  have hlt := blk_lt hbx1
  obtain ⟨b0, b1, b2, b3, b4⟩ := box_at hbx1
  have HBX := Lib.hid hbx1
  clear y hbx0 hb1 hbx1
  have hin : i ≤ n := by rw [N.out]; exact hf.1
  have hw := withP_at (l := l) (a := ⟨x1, ⟨x2, x3, x4, x5⟩⟩) hf
  have HW := Lib.hid hw
  have HF := Lib.hid hf
  clear hw hf
  cases b with
  | true =>
    have hil : i < n := by
      obtain ⟨z, hz, _⟩ := HF.out.2.1.1 rfl
      have := (List.getElem?_eq_some_iff.1 hz).1
      rw [N.out]; exact this
    go_wp2_with (go_at_call 202; refine Hid.out ?_)
    refine Lib.hid ?_
    refine (cloneAt_any A n c l w1 N.out r1 (by omega)).mono ?_
    rintro e w2 ⟨A2, c2, rfl, ho, hb2⟩
    rw [← N.out] at ho ⊢
    have hbx2 := (hb2.block w.heap.size hlt).trans HBX.out
    obtain ⟨g, cur, hA2, -⟩ := ho.row (by rw [← N.out]; omega)
    subst hA2
    obtain ⟨d0, d1, d2, d3, d4⟩ := box_at hbx2
    obtain ⟨i1, hi1, hz1, hz2, hz3⟩ := info_parts Tryz.infoAt
    have I1 := Lib.hid hi1
    have Z2 := Lib.hid hz2
    have hil' : i < l.length := by have := N.out; omega
    clear hi1 hz1 hz2 hz3 b0 b1 b2 b3 b4 hbx2
    go_wp2_with (refine wpList_set_own rfl 53 (.tmp 20) (.tmp 19) rfl rfl i1 I1.out Z2.out At.enc_len At.enc_one ho hil' ⟨x1, ⟨x2, x3, x4, x5⟩⟩ (cs := #[.int .i64 x1, .int .u8 x2, .int .i64 x3, .int .u64 x4, .string x5]) rfl (p := (⟨g, 0, none⟩ : Addr).add (i * 5)) rfl (by first | rfl | (rw [add_row]; rfl)) rfl ?_; intro w3 ho3 hg3)
    have hbw2 := ext_trans hbw hb2
    have hbw3 : Below w.heap.size w w3 := hbw2.grown hg3 hbw2.size (fun k hk => Nat.le_trans hbw.size (ho.wb_lt k hk).1)
    have e : n = (l.set i ⟨x1, ⟨x2, x3, x4, x5⟩⟩).length := by rw [List.length_set]; exact N.out
    go_ret
    refine ⟨l.set i ⟨x1, ⟨x2, x3, x4, x5⟩⟩, fun hr => (HW.out hr).symm, by rw [List.length_set]; omega, some ⟨g, 0, none⟩, c2, by rw [← e]; rfl, by rw [← e]; exact ho3.base_le hbw.size, hbw3⟩
  | false =>
    have hil' : i ≤ l.length := by have := N.out; omega
    go_wp2_with (fail)
    go_region_held3 (fun w' => w'.cell? ⟨w.heap.size, 0, none⟩ = some (.int .i64 x1) ∧ w'.cell? ⟨w.heap.size, 1, none⟩ = some (.int .u8 x2) ∧ w'.cell? ⟨w.heap.size, 2, none⟩ = some (.int .i64 x3) ∧ w'.cell? ⟨w.heap.size, 3, none⟩ = some (.int .u64 x4) ∧ w'.cell? ⟨w.heap.size, 4, none⟩ = some (.string x5))
      (go_keep) (first
        | (go_at_call 202
           refine (clone_n A n c l w1 w1.drew N.out r1 (by omega) (up_drew (Below.refl _ _))).mono ?_
           rintro e w2 ⟨A2, c2, rfl, ho, hb2, hb3⟩
           obtain ⟨f0, f1, f2, f3, f4⟩ := box_at ((hb2.block w.heap.size hlt).trans HBX.out))
        | (go_at_call 202
           refine (clone_n A n c l w1 _ N.out r1 (by omega) (up_alloc (up_drew (Below.refl _ _)) _)).mono ?_
           rintro e w2 ⟨A2, c2, rfl, ho, hb2, hb3⟩
           obtain ⟨f0, f1, f2, f3, f4⟩ := box_at ((hb2.block w.heap.size hlt).trans HBX.out))
        | (go_at_call 247
           have q := insert_n A2 n c2 w1.drew.heap.size w2.heap.size i l x1 x2 x3 x4 x5 w w1 (w2.alloc (.cells #[.int .i64 x1, .int .u8 x2, .int .i64 x3, .int .u64 x4, .string x5] 53)) (ho.alloc (.cells #[.int .i64 x1, .int .u8 x2, .int .i64 x3, .int .u64 x4, .string x5] 53)) N.out hb (Nat.le_refl _) (by rw [World.size_alloc]; exact Nat.le_succ_of_le hb3.size) (heap_alloc_new w2 (.cells #[.int .i64 x1, .int .u8 x2, .int .i64 x3, .int .u64 x4, .string x5] 53)) hin (fun h => absurd (ho.wb_lt _ h).2 (Nat.lt_irrefl _)) hbw (up_alloc hb2 (.cells #[.int .i64 x1, .int .u8 x2, .int .i64 x3, .int .u64 x4, .string x5] 53))
           refine q.mono ?_
           clear q
           rintro e w3 ⟨A3, c3, rfl, ho3, hbw3, hb3⟩
           obtain ⟨g0, g1, g2, g3, g4⟩ := box_at ((hb3.block w.heap.size hlt).trans HBX.out))
        | (go_at_call 247
           have q := insert_n A2 n c2 (w1.drew.alloc (.cells #[.int .i64 x1, .int .u8 x2, .int .i64 x3, .int .u64 x4, .string x5] 53)).heap.size w1.drew.heap.size i l x1 x2 x3 x4 x5 w w1 w2 ho N.out hb (ext_alloc w1.drew (.cells #[.int .i64 x1, .int .u8 x2, .int .i64 x3, .int .u64 x4, .string x5] 53)).size hb3.size ((hb3.block w1.drew.heap.size (by rw [World.size_alloc]; exact Nat.lt_succ_self _)).trans (heap_alloc_new w1.drew (.cells #[.int .i64 x1, .int .u8 x2, .int .i64 x3, .int .u64 x4, .string x5] 53))) hin (fun h => absurd (ho.wb_lt _ h).1 (by rw [World.size_alloc]; exact Nat.not_succ_le_self _)) hbw hb2
           refine q.mono ?_
           clear q
           rintro e w3 ⟨A3, c3, rfl, ho3, hbw3, hb4⟩
           obtain ⟨g0, g1, g2, g3, g4⟩ := box_at ((hb4.block w.heap.size hlt).trans HBX.out)))
    all_goals go_wp2_with (fail)
    all_goals go_ret
    all_goals exact ⟨insP l i ⟨x1, ⟨x2, x3, x4, x5⟩⟩, fun hr => (HW.out hr).symm, by rw [insP_len _ _ _ hil']; exact Nat.le_refl _, A3, c3, by rw [insP_len _ _ _ hil', ← N.out]; rfl, by rw [insP_len _ _ _ hil', ← N.out]; exact ho3, hbw3⟩
end Go.Proofs.YtbdkbfoplpociaaGreatDoor
namespace Go.Proofs.YtbdkbfoplpociaaGreatDoor
set_option linter.unusedVariables false
set_option linter.unusedSimpArgs false

theorem with_all {l : List At} (h : riseA l = true) (a : At) :
    riseA (withP l a) = true ∧ (∀ k, lk At.key (withP l a) k = if a.key = k then some a else lk At.key l k) ∧ (withP l a).length ≤ l.length + 1 := by
  have hs := riseA_srt.1 h
  have hp : Srt Ch.key [(⟨a.key, false, a.v⟩ : Ch)] := (srt_cons Ch.key).2 ⟨by simp, Srt.nil Ch.key⟩
  obtain ⟨h1, h2, _, h4⟩ := apply_all hp hs
  refine ⟨riseA_srt.2 h1, fun k => ?_, by unfold withP; simp at h4; omega⟩
  unfold withP
  rw [h2 k, lk_cons, lk_nil]
  simp only
  split <;> simp [lkApply]

/-- put in where the key is not yet there -/
def stepB (b : List At) (x : At) : List At := if (getA b x.key).isSome = true then b else withP b x
theorem step_all {s : List At} (hs : riseA s = true) (x : At) :
    riseA (stepB s x) = true ∧ (∀ k, lk At.key (stepB s x) k = (lk At.key s k).or (if x.key = k then some x else none)) ∧ (stepB s x).length ≤ s.length + 1 := by
  unfold stepB
  obtain ⟨h1, h2, h3⟩ := with_all hs x
  have e : getA s x.key = (lk At.key s x.key).map (·.v) := rfl
  rw [e, Option.isSome_map]
  split
  · rename_i h
    refine ⟨hs, fun k => ?_, by omega⟩
    by_cases hk : x.key = k
    · subst hk
      obtain ⟨y, hy⟩ := Option.isSome_iff_exists.1 h
      rw [hy]; rfl
    · rw [if_neg hk, Option.or_none]
  · rename_i h
    refine ⟨h1, fun k => ?_, h3⟩
    rw [h2 k]
    by_cases hk : x.key = k
    · subst hk
      have : lk At.key s x.key = none := by simpa using h
      rw [if_pos rfl, if_pos rfl, this]; rfl
    · rw [if_neg hk, if_neg hk, Option.or_none]
theorem foldl_step (l : List At) : ∀ {s : List At}, riseA s = true →
    riseA (l.foldl stepB s) = true ∧ (∀ k, lk At.key (l.foldl stepB s) k = (lk At.key s k).or (lk At.key l k)) ∧ (l.foldl stepB s).length ≤ s.length + l.length := by
  induction l with
  | nil => intro s hs; exact ⟨hs, fun k => by simp [lk_nil], Nat.le_refl _⟩
  | cons a l ih =>
    intro s hs
    obtain ⟨h1, h2, h3⟩ := step_all hs a
    obtain ⟨g1, g2, g3⟩ := ih h1
    refine ⟨g1, fun k => ?_, by simp only [List.foldl_cons, List.length_cons]; omega⟩
    rw [List.foldl_cons, g2 k, h2 k, lk_cons, Option.or_assoc]
    split <;> simp
theorem take_snoc {α : Type} {l : List α} {i : Nat} {a : α} (h : l[i]? = some a) : l.take (i + 1) = l.take i ++ [a] := by
  obtain ⟨hi, he⟩ := List.getElem?_eq_some_iff.1 h
  rw [List.take_succ_eq_append_getElem hi, he]
end Go.Proofs.YtbdkbfoplpociaaGreatDoor
namespace Go.Proofs.YtbdkbfoplpociaaGreatDoor
open Go.RowKit
set_option linter.unusedVariables false
set_option linter.unusedSimpArgs false

def tellM (m : Mk) (d : List Cl) : Mk := d.foldl (fun m c => mkInsert m [c.r] c.s) m
theorem tellM_snoc (m : Mk) (d : List Cl) (c : Cl) : tellM m (d ++ [c]) = mkInsert (tellM m d) [c.r] c.s := by unfold tellM; rw [List.foldl_append]; rfl
theorem InsB.tell {m : Mk} {K : Nat} (h : InsB m K) : ∀ (d : List Cl), (∀ c ∈ d, c.s.length ≤ 10000000) → InsB (tellM m d) (K + d.length) := by
  intro d
  induction d generalizing m K with
  | nil => intro _; exact h
  | cons c d ih =>
    intro hs
    have := ih (h.insert c.r (hs c (by simp))) (fun x hx => hs x (by simp [hx]))
    rw [List.length_cons, show K + (d.length + 1) = K + 1 + d.length by omega]
    exact this

end Go.Proofs.YtbdkbfoplpociaaGreatDoor
