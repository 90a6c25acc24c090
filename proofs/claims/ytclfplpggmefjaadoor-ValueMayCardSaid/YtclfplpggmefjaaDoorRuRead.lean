/- The walk of runes.Read. -/
import Derived.Test.YtclfplpggmefjaaDoorRuReadRef
namespace Go.Proofs.YtclfplpggmefjaaDoor
open Go.RowKit
set_option linter.unusedVariables false
set_option linter.unusedSimpArgs false

theorem dec_at (t : List UInt8) (pos : Nat) : Utf8.decode ⟨t.toArray⟩ pos = Lib.decodeL (t.drop pos) := by
  rw [Lib.decode_N, Lib.decodeL_N]
  simp [List.getD, List.getElem?_drop]
theorem str_size (t : List UInt8) : (ByteArray.mk t.toArray).size = t.length := by simp [ByteArray.size]
theorem below_iter {B k : Nat} {a w : World} (h : Below B a w) (hk : B ≤ k) (s : ByteArray) (pos : Nat) : Below B a (w.iterAt k s pos) := Lib.below_iterAt h hk s pos
theorem Ow.iterAt {α : Type} {enc : α → List Value} {size : Nat} {e : TypeId} {w : World} {base : Nat} {v : Value} {l : List α} (h : Ow enc size e w base v l) {k : Nat} (hk : wb v ≠ some k) (s : ByteArray) (pos : Nat) : Ow enc size e (w.iterAt k s pos) base v l :=
  h.keep fun j hj => Lib.iterAt_other w k j s pos (fun e => hk (by rw [hj, e]))

set_option maxHeartbeats 1600000 in
theorem read_any (A : Option Addr) (n c : Nat) (b : List Int) (w : World) (hn : n = b.length) (hc : n ≤ c) (h : RdU8 w w.heap.size A b) (hb : n ≤ 100000000) (hu : ∀ x ∈ b, 0 ≤ x ∧ x ≤ 255)
    (hT : Lib.Utf8Tabs 1 2 w) :
    Calls Tryd.prog 48 #[.slice A n c] w (ReadOut (readR b) w) := by
  obtain ⟨t, rfl⟩ := intB_of hu
  rw [intB_len] at hn
  have hB := rd_intB.1 h
  have hV := valid_read t.length t (Nat.le_refl _)
  generalize hO : readR (intB t) = o at hV ⊢
  have HO := Lib.hid hO
  have N := Lib.hid hn
  clear hn hO hu h
  cases o with
  | none =>
    go_enter Tryd.func48, Tryd.ntmps48
    go_wp2_with (go_at_call 73; refine Hid.out ?_)
    refine Lib.hid ?_
    refine (validB_any A n c t w N.out hc (by omega) hB hT).mono ?_
    rw [hV]
    rintro e w1 ⟨rfl, y⟩
    clear hV
    go_wp2_with (fail)
    refine bodyPost_ret (v := .tuple #[.slice none 0 0, .int .i64 3]) (by simp [results, Tryd.results48, go_sem]) rfl ?_
    exact ⟨.slice none 0 0, rfl, Ow.nil _ _, y⟩
  | some L =>
    go_enter Tryd.func48, Tryd.ntmps48
    go_wp2_with (go_at_call 73; refine Hid.out ?_)
    refine Lib.hid ?_
    refine (validB_any A n c t w N.out hc (by omega) hB hT).mono ?_
    rw [hV]
    rintro e w1 ⟨rfl, y⟩
    clear hV hT
    have hcv : (convert 84 9 (.slice A n c)).run Tryd.prog w1 = .ok (.string ⟨t.toArray⟩) w1 := conv_str N.out (hB.below y (Nat.le_refl _))
    have hsz := str_size t
    generalize hs : ByteArray.mk t.toArray = s at hcv hsz
    have HS := Lib.hid hs
    rw [← N.out] at hsz
    have HZ := Lib.hid hsz
    clear hs hsz
    go_wp2_with (fail)
    obtain ⟨k, hk⟩ : ∃ k, k = w1.heap.size := ⟨_, rfl⟩
    have hk0 : w.heap.size ≤ k := by rw [hk]; exact y.size
    rw [← hk]
    have HK := Lib.hid hk
    clear hcv hk
    go_loopg [4] n (fun g lv wr => ∃ (pos : Nat) (w2 : World) (l : List Int) (v : Value), pos ≤ n ∧ g = n - pos ∧ w2 = wr ∧ v = lv ∧ Hid (w2.heap[k]? = some (.stringIter s pos)) ∧ Hid ((readR (intB (t.drop pos))).map (l ++ ·) = some L) ∧ OwI32 w2 w.heap.size v l ∧ Hid (wb v ≠ some k) ∧ Below w.heap.size w w2 ∧ l.length ≤ pos)
    case atStart =>
      refine ⟨0, _, [], _, by omega, rfl, rfl, rfl, Lib.hid ?_, Lib.hid (by rw [List.drop_zero, HO.out]; rfl), Ow.nil _ _, Lib.hid (by simp [wb]), ?_, by simp⟩
      · rw [HK.out]; exact World.iter_heap w1 s 0
      · exact y.alloc y.size _
    case round =>
      obtain ⟨pos, w2, l, v, hp, hg, rfl, rfl, HI, HR, hown, HW, hx, hlp⟩ := hrel
      have HG := Lib.hid hg
      clear hg
      by_cases hlt : pos < n
      · have hne : t.drop pos ≠ [] := fun e => by
          have := congrArg List.length e
          rw [List.length_drop, List.length_nil] at this
          have := N.out
          omega
        have hnx : ∀ ty, (Instr.next (.pointer (some ⟨k, 0, none⟩)) true ty).run Tryd.prog w2 = _ := fun ty => Lib.run_next_any_at w2 k s pos ty HI.out (by rw [HZ.out]; exact hlt)
        have hd : Utf8.decode s pos = Lib.decodeL (t.drop pos) := by rw [← HS.out]; exact dec_at t pos
        have t1 := HR.out
        rw [readR_dec hne, List.drop_drop] at t1
        have hw := Lib.decodeL_width (t.drop pos)
        have hr1 := Lib.decodeL_rune (t.drop pos)
        obtain ⟨m, hm⟩ : ∃ X, (Lib.decodeL (t.drop pos)).1 = X := ⟨_, rfl⟩
        obtain ⟨q, hq⟩ : ∃ X, (Lib.decodeL (t.drop pos)).2 = X := ⟨_, rfl⟩
        have hnc : ¬ (m = 65533 ∧ q = 1) := fun hc => by
          rw [hm, hq, if_pos hc] at t1
          cases t1
        have hnx2 : nextR (intB (t.drop pos)) = ((m : Int), q) := by rw [next_dec hne, hm, hq, if_neg hnc]
        have hqn : pos + q ≤ n := by
          have t2 := (next_inv (intB_mem _) hnx2 (by omega)).2
          have t3 := congrArg List.length t2.2
          rw [List.length_append, ← t2.1, intB_len, List.length_drop] at t3
          have := N.out
          omega
        rw [hm, hq, if_neg hnc] at t1
        rw [hd, hm, hq] at hnx
        have HR2 : Hid ((readR (intB (t.drop (pos + q)))).map ((l ++ [(m : Int)]) ++ ·) = some L) := Lib.hid (by
          rw [Option.map_map] at t1
          rw [← t1]
          congr 1
          funext z
          simp)
        rw [hm] at hr1
        rw [hq] at hw
        clear t1 hnx2 hnc hd hm hq HR hne
        have hkz : k < w2.heap.size := (Array.getElem?_eq_some_iff.1 HI.out).1
        have ho2 := hown.iterAt HW.out s (pos + q)
        have hx2 := below_iter hx hk0 s (pos + q)
        have hit : Hid ((w2.iterAt k s (pos + q)).heap[k]? = some (.stringIter s (pos + q))) := Lib.hid (Lib.iterAt_heap w2 k s pos (pos + q) HI.out)
        have hz3 : w2.heap.size = (w2.iterAt k s (pos + q)).heap.size := (Lib.iterAt_size w2 k s (pos + q)).symm
        generalize hw3 : w2.iterAt k s (pos + q) = w3 at ho2 hx2 hit hz3 hnx
        rw [hz3] at hkz
        clear hw3 hz3
        go_wp2_with (at_builtin; refine app_i32 (m := [(m : Int)]) rfl (.tmp 16) (.tmp 18) rfl rfl (ho2.alloc _) _ _ _ _ rfl rfl (Rd.new (enc := encI32) (size := 1) (fun _ => rfl) w3 21 [(m : Int)] (cs := #[.int .i32 (m : Int)]) rfl rfl) (by simp only [List.length_cons, List.length_nil]; omega) (by rw [World.size_alloc]; have := hx2.size; omega) ?_; intro v' w' hown' hgr hv')
        have hx3 : Below w.heap.size w w' := (ext_trans hx2 (ext_alloc w3 _)).grown hgr (by rw [World.size_alloc]; have := hx2.size; omega) (fun k hk => (ho2.wb_lt k hk).1)
        have HI3 : Hid (w'.heap[k]? = some (.stringIter s (pos + q))) := Lib.hid (by
          rw [hgr.block k (by rw [World.size_alloc]; omega) (fun e => HW.out e.symm), Below.heap_alloc w3 _ k hkz]
          exact hit.out)
        have HW3 : Hid (wb v' ≠ some k) := Lib.hid (by
          rcases hv' with ⟨rfl, _⟩ | e | e
          · exact HW.out
          · rw [e]; exact HW.out
          · rw [e, World.size_alloc]; intro e2; injection e2 with e2; omega)
        clear hnx
        go_roundg (n - (pos + q))
        case measure => have := HG.out; omega
        case rel => exact ⟨pos + q, w', _, _, by omega, rfl, rfl, rfl, HI3, HR2, hown', HW3, hx3, by simp; omega⟩
      · have hnx : ∀ ty, (Instr.next (.pointer (some ⟨k, 0, none⟩)) true ty).run Tryd.prog w2 = _ := fun ty => Lib.run_next_end_at w2 k s pos ty HI.out (by rw [HZ.out]; exact hlt)
        have hE : l = L := by
          have t1 := HR.out
          rw [List.drop_eq_nil_of_le (by have := N.out; omega)] at t1
          injection t1 with t1
          simpa using t1
        have HE := Lib.hid hE
        clear hE
        go_wp2_with (fail)
        refine bodyPost_ret (v := .tuple #[v, .int .i64 0]) (by simp [results, Tryd.results48, go_sem]) rfl ?_
        exact ⟨v, rfl, by rw [← HE.out]; exact hown, hx⟩
end Go.Proofs.YtclfplpggmefjaaDoor
