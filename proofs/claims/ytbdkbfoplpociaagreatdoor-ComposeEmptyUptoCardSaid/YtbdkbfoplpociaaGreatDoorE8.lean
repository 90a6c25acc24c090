/- Merged texts: RuRead, VaFloat, VaText, VaMay. -/
import Derived.Test.YtbdkbfoplpociaaGreatDoorE7
import Derived.Lib.ConvBytes
import Derived.Test.YtbdkbfoplpociaaGreatDoorE3
import Derived.Deep.RegionHeld3
namespace Go.Proofs.YtbdkbfoplpociaaGreatDoor
open Go.RowKit
set_option linter.unusedVariables false
set_option linter.unusedSimpArgs false

theorem dec_at (t : List UInt8) (pos : Nat) : Utf8.decode ⟨t.toArray⟩ pos = Lib.decodeL (t.drop pos) := by
  rw [Lib.decode_N, Lib.decodeL_N]
  simp [List.getD, List.getElem?_drop]
theorem str_size (t : List UInt8) : (ByteArray.mk t.toArray).size = t.length := by simp [ByteArray.size]
theorem below_iter {B k : Nat} {a w : World} (h : Below B a w) (hk : B ≤ k) (s : ByteArray) (pos : Nat) : Below B a (w.iterAt k s pos) := Lib.below_iterAt h hk s pos
theorem Ow.iterAt {α : Type} {enc : α → List Value} {size : Nat} {e : TypeId} {w : World} {base : Nat} {v : Value} {l : List α} (h : Ow enc size e w base v l) {k : Nat} (hk : wb v ≠ some k) (s : ByteArray) (pos : Nat) : Ow enc size e (w.iterAt k s pos) base v l :=
  h.keep fun j hj => Lib.iterAt_other w k j s pos (fun e => hk (by rw [hj, e]))

set_option maxHeartbeats 1600000 in
theorem read_any (A : Option Addr) (n c : Nat) (b : List Int) (w : World) (hn : n = b.length) (hc : n ≤ c) (h : RdU8 w w.heap.size A b) (hb : n ≤ 100000000) (hu : ∀ x ∈ b, 0 ≤ x ∧ x ≤ 255)
    (hT : Lib.Utf8Tabs 1 2 w) :
    Calls Tryz.prog 262 #[.slice A n c] w (ReadOut (readR b) w) := by
  obtain ⟨t, rfl⟩ := intB_of hu
  rw [intB_len] at hn
  have hB := rd_intB.1 h
  have hV := valid_read t.length t (Nat.le_refl _)
  generalize hO : readR (intB t) = o at hV ⊢
  have HO := Lib.hid hO
  have N := Lib.hid hn
  clear hn hO hu h
  cases o with
  | none =>
    go_enter Tryz.func262, Tryz.ntmps262
    go_wp2_with (go_at_call 270; refine Hid.out ?_)
    refine Lib.hid ?_
    refine (validB_any A n c t w N.out hc (by omega) hB hT).mono ?_
    rw [hV]
    rintro e w1 ⟨rfl, y⟩
    clear hV
    go_wp2_with (fail)
    refine bodyPost_ret (v := .tuple #[.slice none 0 0, .int .i64 3]) (by simp [results, Tryz.results262, go_sem]) rfl ?_
    exact ⟨.slice none 0 0, rfl, Ow.nil _ _, y⟩
  | some L =>
    go_enter Tryz.func262, Tryz.ntmps262
    go_wp2_with (go_at_call 270; refine Hid.out ?_)
    refine Lib.hid ?_
    refine (validB_any A n c t w N.out hc (by omega) hB hT).mono ?_
    rw [hV]
    rintro e w1 ⟨rfl, y⟩
    clear hV hT
    have hcv : (convert 99 9 (.slice A n c)).run Tryz.prog w1 = .ok (.string ⟨t.toArray⟩) w1 := conv_str N.out (hB.below y (Nat.le_refl _))
    have hsz := str_size t
    generalize hs : ByteArray.mk t.toArray = s at hcv hsz
    have HS := Lib.hid hs
    rw [← N.out] at hsz
    have HZ := Lib.hid hsz
    clear hs hsz
    go_wp2_with (fail)
    obtain ⟨k, hk⟩ : ∃ k, k = w1.heap.size := ⟨_, rfl⟩
    have hk0 : w.heap.size ≤ k := by rw [hk]; exact y.size
    rw [← hk]
    have HK := Lib.hid hk
    clear hcv hk
    go_loopg [4] n (fun g lv wr => ∃ (pos : Nat) (w2 : World) (l : List Int) (v : Value), pos ≤ n ∧ g = n - pos ∧ w2 = wr ∧ v = lv ∧ Hid (w2.heap[k]? = some (.stringIter s pos)) ∧ Hid ((readR (intB (t.drop pos))).map (l ++ ·) = some L) ∧ OwI32 w2 w.heap.size v l ∧ Hid (wb v ≠ some k) ∧ Below w.heap.size w w2 ∧ l.length ≤ pos)
    case atStart =>
      refine ⟨0, _, [], _, by omega, rfl, rfl, rfl, Lib.hid ?_, Lib.hid (by rw [List.drop_zero, HO.out]; rfl), Ow.nil _ _, Lib.hid (by simp [wb]), ?_, by simp⟩
      · rw [HK.out]; exact World.iter_heap w1 s 0
      · exact y.alloc y.size _
    case round =>
      obtain ⟨pos, w2, l, v, hp, hg, rfl, rfl, HI, HR, hown, HW, hx, hlp⟩ := hrel
      have HG := Lib.hid hg
      clear hg
      by_cases hlt : pos < n
      · have hne : t.drop pos ≠ [] := fun e => by
          have := congrArg List.length e
          rw [List.length_drop, List.length_nil] at this
          have := N.out
          omega
        have hnx : ∀ ty, (Instr.next (.pointer (some ⟨k, 0, none⟩)) true ty).run Tryz.prog w2 = _ := fun ty => Lib.run_next_any_at w2 k s pos ty HI.out (by rw [HZ.out]; exact hlt)
        have hd : Utf8.decode s pos = Lib.decodeL (t.drop pos) := by rw [← HS.out]; exact dec_at t pos
        have t1 := HR.out
        rw [readR_dec hne, List.drop_drop] at t1
        have hw := Lib.decodeL_width (t.drop pos)
        have hr1 := Lib.decodeL_rune (t.drop pos)
        obtain ⟨m, hm⟩ : ∃ X, (Lib.decodeL (t.drop pos)).1 = X := ⟨_, rfl⟩
        obtain ⟨q, hq⟩ : ∃ X, (Lib.decodeL (t.drop pos)).2 = X := ⟨_, rfl⟩
        have hnc : ¬ (m = 65533 ∧ q = 1) := fun hc => by
          rw [hm, hq, if_pos hc] at t1
          cases t1
        have hnx2 : nextR (intB (t.drop pos)) = ((m : Int), q) := by rw [next_dec hne, hm, hq, if_neg hnc]
        have hqn : pos + q ≤ n := by
          have t2 := (next_inv (intB_mem _) hnx2 (by omega)).2
          have t3 := congrArg List.length t2.2
          rw [List.length_append, ← t2.1, intB_len, List.length_drop] at t3
          have := N.out
          omega
        rw [hm, hq, if_neg hnc] at t1
        rw [hd, hm, hq] at hnx
        have HR2 : Hid ((readR (intB (t.drop (pos + q)))).map ((l ++ [(m : Int)]) ++ ·) = some L) := Lib.hid (by
          rw [Option.map_map] at t1
          rw [← t1]
          congr 1
          funext z
          simp)
        rw [hm] at hr1
        rw [hq] at hw
        clear t1 hnx2 hnc hd hm hq HR hne
        have hkz : k < w2.heap.size := (Array.getElem?_eq_some_iff.1 HI.out).1
        have ho2 := hown.iterAt HW.out s (pos + q)
        have hx2 := below_iter hx hk0 s (pos + q)
        have hit : Hid ((w2.iterAt k s (pos + q)).heap[k]? = some (.stringIter s (pos + q))) := Lib.hid (Lib.iterAt_heap w2 k s pos (pos + q) HI.out)
        have hz3 : w2.heap.size = (w2.iterAt k s (pos + q)).heap.size := (Lib.iterAt_size w2 k s (pos + q)).symm
        generalize hw3 : w2.iterAt k s (pos + q) = w3 at ho2 hx2 hit hz3 hnx
        rw [hz3] at hkz
        clear hw3 hz3
        go_wp2_with (at_builtin; refine app_i32 (m := [(m : Int)]) rfl (.tmp 16) (.tmp 18) rfl rfl (ho2.alloc _) _ _ _ _ rfl rfl (Rd.new (enc := encI32) (size := 1) (fun _ => rfl) w3 21 [(m : Int)] (cs := #[.int .i32 (m : Int)]) rfl rfl) (by simp only [List.length_cons, List.length_nil]; omega) (by rw [World.size_alloc]; have := hx2.size; omega) ?_; intro v' w' hown' hgr hv')
        have hx3 : Below w.heap.size w w' := (ext_trans hx2 (ext_alloc w3 _)).grown hgr (by rw [World.size_alloc]; have := hx2.size; omega) (fun k hk => (ho2.wb_lt k hk).1)
        have HI3 : Hid (w'.heap[k]? = some (.stringIter s (pos + q))) := Lib.hid (by
          rw [hgr.block k (by rw [World.size_alloc]; omega) (fun e => HW.out e.symm), Below.heap_alloc w3 _ k hkz]
          exact hit.out)
        have HW3 : Hid (wb v' ≠ some k) := Lib.hid (by
          rcases hv' with ⟨rfl, _⟩ | e | e
          · exact HW.out
          · rw [e]; exact HW.out
          · rw [e, World.size_alloc]; intro e2; injection e2 with e2; omega)
        clear hnx
        go_roundg (n - (pos + q))
        case measure => have := HG.out; omega
        case rel => exact ⟨pos + q, w', _, _, by omega, rfl, rfl, rfl, HI3, HR2, hown', HW3, hx3, by simp; omega⟩
      · have hnx : ∀ ty, (Instr.next (.pointer (some ⟨k, 0, none⟩)) true ty).run Tryz.prog w2 = _ := fun ty => Lib.run_next_end_at w2 k s pos ty HI.out (by rw [HZ.out]; exact hlt)
        have hE : l = L := by
          have t1 := HR.out
          rw [List.drop_eq_nil_of_le (by have := N.out; omega)] at t1
          injection t1 with t1
          simpa using t1
        have HE := Lib.hid hE
        clear hE
        go_wp2_with (fail)
        refine bodyPost_ret (v := .tuple #[v, .int .i64 0]) (by simp [results, Tryz.results262, go_sem]) rfl ?_
        exact ⟨v, rfl, by rw [← HE.out]; exact hown, hx⟩
end Go.Proofs.YtbdkbfoplpociaaGreatDoor
namespace Go.Proofs.YtbdkbfoplpociaaGreatDoor
open Go.RowKit
set_option linter.unusedVariables false
set_option linter.unusedSimpArgs false

theorem ret_boolV {a b : Bool} (h : a = b) : Ending.returned (.bool a) = Ending.returned (.bool b) := by rw [h]
theorem isNaN_any (b : Nat) (w : World) : Calls Tryz.prog 260 #[.float .f64 b] w fun e w' => e = .returned (.bool (isNanF b)) ∧ w = w' := by
  have h := order_self b
  have H := Lib.hid h
  clear h
  go_enter Tryz.func260, Tryz.ntmps260
  go_wp2_with (fail)
  go_ret
  exact ⟨ret_boolV H.out, rfl⟩
theorem nanF_nat (b : Nat) : nanF (b : Int) = isNanF b := by
  unfold nanF isNanF
  congr 1
  apply propext
  constructor <;> intro h <;> omega

theorem float_any (b : Nat) (w : World) (hb : b < 18446744073709551616) : Calls Tryz.prog 242 #[.float .f64 b] w fun e w' =>
    e = .returned (.agg #[.int .u8 3, .int .i64 0, .int .u64 (floatV b).f, .string ⟨#[]⟩]) ∧ Below w.heap.size w w' := by
  cases hN : isNanF b with
  | true =>
    have hf : (floatV b).f = 9221120237041090560 := by unfold floatV; rw [nanF_nat, hN]; rfl
    rw [hf]
    have H := Lib.hid hN
    clear hf hN
    go_enter Tryz.func242, Tryz.ntmps242
    go_wp2_with (go_at_call 260; refine (isNaN_any b _).mono ?_; rintro e w1 ⟨rfl, rfl⟩; rw [H.out])
    refine bodyPost_ret (v := .agg #[.int .u8 3, .int .i64 0, .int .u64 9221120237041090560, .string ⟨#[]⟩]) (by simp [results, Tryz.results242, go_sem]) rfl ?_
    exact ⟨rfl, ext_alloc w _⟩
  | false =>
    have hf : (floatV b).f = b := by unfold floatV; rw [nanF_nat, hN]; rfl
    rw [hf]
    have H := Lib.hid hN
    clear hf hN
    go_enter Tryz.func242, Tryz.ntmps242
    go_wp2_with (go_at_call 260; refine (isNaN_any b _).mono ?_; rintro e w1 ⟨rfl, rfl⟩; rw [H.out])
    refine bodyPost_ret (v := .agg #[.int .u8 3, .int .i64 0, .int .u64 b, .string ⟨#[]⟩]) (by simp [results, Tryz.results242, go_sem]) rfl ?_
    exact ⟨rfl, ext_alloc w _⟩
end Go.Proofs.YtbdkbfoplpociaaGreatDoor
namespace Go.Proofs.YtbdkbfoplpociaaGreatDoor
open Go.RowKit
set_option linter.unusedVariables false
set_option linter.unusedSimpArgs false

/-- a string's bytes -/
def strI (s : ByteArray) : List Int := intB s.data.toList
theorem strI_len (s : ByteArray) : (strI s).length = s.size := by rw [strI, intB_len, Array.length_toList]; rfl
def textOk (s : ByteArray) : Bool := (readR (strI s)).isSome
theorem conv_bytes (s : ByteArray) (W : World) : (convert 9 99 (.string s)).run Tryz.prog W = .ok (.slice (some ⟨W.heap.size, 0, none⟩) s.size (grownCap W s.size 0 5)) (Lib.bytesWorld W 5 s) :=
  Lib.run_convert_string_bytes W _ _ _ s Tryz.strT Tryz.slU8 Tryz.uU8
theorem bytes_below (s : ByteArray) (W : World) : Below W.heap.size W (Lib.bytesWorld W 5 s) := by
  refine ⟨?_, ?_, ?_, by rw [Lib.bytesWorld_size]; omega, fun k hk => Lib.bytesWorld_at_old W _ s k hk⟩ <;> (unfold Lib.bytesWorld World.freeze; split <;> rfl)
theorem bytes_rd (s : ByteArray) (W : World) : RdU8 (Lib.bytesWorld W 5 s) (Lib.bytesWorld W 5 s).heap.size (some ⟨W.heap.size, 0, none⟩) (strI s) := by
  refine rd_intB.2 fun hl => ⟨_, rfl, by rw [Lib.bytesWorld_size]; exact Nat.lt_succ_self _, fun i hi j u hu => ?_⟩
  have hj : j = 0 ∧ u = .int .u8 (s.data.toList[i].toNat : Int) := by
    cases j with
    | zero => simp [encB] at hu; exact ⟨rfl, hu.symm⟩
    | succ j => simp [encB] at hu
  obtain ⟨rfl, rfl⟩ := hj
  have hs : i < s.size := by have h := hi; rw [Array.length_toList] at h; exact h
  have := Lib.bytesWorld_cell W 5 s i hs
  rw [add_zero', Nat.mul_one]
  rw [show (⟨W.heap.size, 0, none⟩ : Addr).add i = ⟨W.heap.size, i, none⟩ from by unfold Addr.add; split <;> simp_all]
  rw [this]
  rw [List.getD, List.getElem?_eq_getElem hi]
  rfl

/-- what a text's value answers -/
def TextOut (s : ByteArray) (w : World) (e : Ending) (w' : World) : Prop :=
  e = .returned (.tuple #[if s.size ≤ 64 ∧ textOk s = true then .agg #[.int .u8 4, .int .i64 0, .int .u64 0, .string s] else .agg #[.int .u8 0, .int .i64 0, .int .u64 0, .string ⟨#[]⟩], .int .i64 (if s.size ≤ 64 ∧ textOk s = true then 0 else 3)]) ∧ Below w.heap.size w w'

set_option maxHeartbeats 1600000 in
theorem text_any (s : ByteArray) (w : World) (hT : Lib.Utf8Tabs 1 2 w) :
    Calls Tryz.prog 244 #[.string s] w (TextOut s w) := by
  by_cases h64 : 64 < s.size
  · have hz : (64 : Int) < (s.size : Int) := by omega
    have HN := Lib.hid (show ¬ (s.size ≤ 64 ∧ textOk s = true) by omega)
    go_enter Tryz.func244, Tryz.ntmps244
    go_wp2_with (fail)
    refine bodyPost_ret (v := .tuple #[.agg #[.int .u8 0, .int .i64 0, .int .u64 0, .string ⟨#[]⟩], .int .i64 3]) (by simp [results, Tryz.results244, go_sem]) rfl ?_
    exact ⟨by rw [if_neg HN.out, if_neg HN.out], ext_alloc w _⟩
  · have hz : ¬ ((64 : Int) < (s.size : Int)) := by omega
    have hcv := conv_bytes s
    go_enter Tryz.func244, Tryz.ntmps244
    go_wp2_with (go_at_call 262; refine Hid.out ?_)
    clear hcv
    refine Lib.hid ?_
    obtain ⟨w1, hw1⟩ : ∃ X : World, X = w.alloc (.cells #[.int .u8 0, .int .i64 0, .int .u64 0, .string ⟨#[]⟩] 43) := ⟨_, rfl⟩
    have y1 : Below w.heap.size w w1 := by rw [hw1]; exact ext_alloc w _
    have hbox : w1.heap[w.heap.size]? = some (.cells #[.int .u8 0, .int .i64 0, .int .u64 0, .string ⟨#[]⟩] 43 (0, 0)) := by rw [hw1]; exact heap_alloc_new w _
    have hsz : w1.heap.size = w.heap.size + 1 := by rw [hw1, World.size_alloc]
    rw [← hw1]
    clear hw1
    have y2 := bytes_below s w1
    have r2 := bytes_rd s w1
    rw [hsz] at r2
    have hcap := grownCap_ge w1 s.size 0 5
    generalize grownCap w1 s.size 0 5 = c at *
    have hbox2 := (y2.block w.heap.size (by omega)).trans hbox
    have x2 := ext_trans y1 y2
    have hsz2 : w.heap.size < (Lib.bytesWorld w1 5 s).heap.size := by rw [Lib.bytesWorld_size]; omega
    generalize Lib.bytesWorld w1 5 s = w2 at *
    refine (read_any (some ⟨w.heap.size + 1, 0, none⟩) s.size c (strI s) w2 (strI_len s).symm hcap r2 (by omega) (intB_mem _) (Utf8Tabs_below hT x2)).mono ?_
    rintro e w3 ⟨v, rfl, _, y3⟩
    have hbox3 := (y3.block w.heap.size hsz2).trans hbox2
    have x3 := ext_trans x2 y3
    obtain ⟨b0, b1, b2, b3⟩ := box_v hbox3
    have hfr := box_free hbox3
    have hsz3 : w.heap.size < w3.heap.size := by have := y3.size; omega
    clear hbox hbox2 hbox3 r2 y1 y2 y3 x2 hcap hsz hsz2
    obtain ⟨E, hE⟩ : ∃ X : Int, (if (readR (strI s)).isSome = true then (0 : Int) else 3) = X := ⟨_, rfl⟩
    rw [hE]
    cases hok : (readR (strI s)).isSome with
    | true =>
      have h0 : E = 0 := by rw [← hE, if_pos hok]
      subst h0
      have HN := Lib.hid (show s.size ≤ 64 ∧ textOk s = true from ⟨by omega, hok⟩)
      clear hE hok
      have hf0 := hfr 0
      have hf1 := hfr 1
      have hf2 := hfr 2
      have hf3 := hfr 3
      clear hfr
      go_wp2_with (fail)
      refine bodyPost_ret (v := .tuple #[.agg #[.int .u8 4, .int .i64 0, .int .u64 0, .string s], .int .i64 0]) (by simp [results, Tryz.results244, go_sem, b0, b1, b2, b3]) rfl ?_
      exact ⟨by rw [if_pos HN.out, if_pos HN.out], ((((x3.setCell (by simp) _).setCell (by simp) _).setCell (by simp) _).setCell (by simp) _)⟩
    | false =>
      have h0 : E = 3 := by rw [← hE, if_neg (by rw [hok]; simp)]
      subst h0
      have HN := Lib.hid (show ¬ (s.size ≤ 64 ∧ textOk s = true) from fun h => by have := h.2; unfold textOk at this; rw [hok] at this; cases this)
      clear hE hok
      have hf0 := hfr 0
      have hf1 := hfr 1
      have hf2 := hfr 2
      have hf3 := hfr 3
      clear hfr
      go_wp2_with (fail)
      refine bodyPost_ret (v := .tuple #[.agg #[.int .u8 0, .int .i64 0, .int .u64 0, .string ⟨#[]⟩], .int .i64 3]) (by simp [results, Tryz.results244, go_sem, b0, b1, b2, b3]) rfl ?_
      exact ⟨by rw [if_neg HN.out, if_neg HN.out], ((((x3.setCell (by simp) _).setCell (by simp) _).setCell (by simp) _).setCell (by simp) _)⟩
end Go.Proofs.YtbdkbfoplpociaaGreatDoor
namespace Go.Proofs.YtbdkbfoplpociaaGreatDoor
open Go.RowKit
set_option linter.unusedVariables false
set_option linter.unusedSimpArgs false

/-- may a value be? -/
def mayV (v : V) : Bool :=
  if v.k = 1 then beqV v (flagV (decide (v.n = 1)))
  else if v.k = 2 then beqV v (intV v.n)
  else if v.k = 3 then beqV v (floatV v.f)
  else if v.k = 4 then (decide (v.s.size ≤ 64 ∧ textOk v.s = true) && beqV v (textV v.s))
  else false

def MayOut (v : V) (w : World) (e : Ending) (w' : World) : Prop := e = .returned (.bool (mayV v)) ∧ Below w.heap.size w w'

set_option maxHeartbeats 1600000 in
theorem mayV_any (k n f : Int) (s : ByteArray) (w : World) (hf0 : 0 ≤ f) (hf1 : f < 18446744073709551616) (hT : Lib.Utf8Tabs 1 2 w) :
    Calls Tryz.prog 199 #[.agg #[.int .u8 k, .int .i64 n, .int .u64 f, .string s]] w (MayOut ⟨k, n, f, s⟩ w) := by
  obtain ⟨R, hR⟩ : ∃ X, mayV ⟨k, n, f, s⟩ = X := ⟨_, rfl⟩
  unfold MayOut
  rw [hR]
  have y1 : Below w.heap.size w (w.alloc (.cells #[.int .u8 k, .int .i64 n, .int .u64 f, .string s] 43)) := ext_alloc w _
  have HBX := Lib.hid (heap_alloc_new w (.cells #[.int .u8 k, .int .i64 n, .int .u64 f, .string s] 43))
  have hlt : w.heap.size < (w.alloc (.cells #[.int .u8 k, .int .i64 n, .int .u64 f, .string s] 43)).heap.size := by simp
  by_cases h1 : k = 1
  · subst h1
    obtain ⟨b, hb⟩ : ∃ X : Bool, (n == 1) = X := ⟨_, rfl⟩
    have hd : decide (n = 1) = b := by rw [← hb]; rfl
    have hb2 := hb
    rw [show mayV ⟨1, n, f, s⟩ = beqV ⟨1, n, f, s⟩ ⟨1, if decide (n = 1) = true then 1 else 0, 0, ⟨#[]⟩⟩ from rfl, hd] at hR
    obtain ⟨m, hm⟩ : ∃ X : Int, (if b = true then (1 : Int) else 0) = X := ⟨_, rfl⟩
    rw [hm] at hR
    have HM := Lib.hid hm
    have HR := Lib.hid hR
    clear hR hd hm hb2
    go_enter Tryz.func199, Tryz.ntmps199
    go_wp2_with (fail)
    generalize w.alloc (.cells #[.int .u8 1, .int .i64 n, .int .u64 f, .string s] 43) = w1 at *
    obtain ⟨b0, b1, b2, b3⟩ := box_v HBX.out
    go_region_held3 (fun w' => w'.cell? ⟨w.heap.size, 0, none⟩ = some (.int .u8 1) ∧ w'.cell? ⟨w.heap.size, 1, none⟩ = some (.int .i64 n) ∧ w'.cell? ⟨w.heap.size, 2, none⟩ = some (.int .u64 f) ∧ w'.cell? ⟨w.heap.size, 3, none⟩ = some (.string s))
      (go_keep) ((go_at_call 240; refine (flag_any b _).mono ?_; rw [HM.out]; rintro e w2 ⟨rfl, y⟩; have x2 : Below w.heap.size w w2 := ext_trans y1 (show Below w1.heap.size w1 w2 from ⟨y.os, y.tape, y.output, y.size, y.block⟩); obtain ⟨f0, f1, f2, f3⟩ := box_v ((y.block w.heap.size hlt).trans HBX.out); clear y))
    all_goals go_wp2_with (fail)
    all_goals go_ret
    all_goals exact ⟨ret_boolV HR.out, by first | exact x2 | exact below_draws x2⟩
  · by_cases h2 : k = 2
    · subst h2
      rw [show mayV ⟨2, n, f, s⟩ = beqV ⟨2, n, f, s⟩ ⟨2, n, 0, ⟨#[]⟩⟩ from rfl] at hR
      have HR := Lib.hid hR
      clear hR h1
      go_enter Tryz.func199, Tryz.ntmps199
      go_wp2_with (fail)
      generalize w.alloc (.cells #[.int .u8 2, .int .i64 n, .int .u64 f, .string s] 43) = w1 at *
      obtain ⟨b0, b1, b2, b3⟩ := box_v HBX.out
      go_region_held3 (fun w' => w'.cell? ⟨w.heap.size, 0, none⟩ = some (.int .u8 2) ∧ w'.cell? ⟨w.heap.size, 1, none⟩ = some (.int .i64 n) ∧ w'.cell? ⟨w.heap.size, 2, none⟩ = some (.int .u64 f) ∧ w'.cell? ⟨w.heap.size, 3, none⟩ = some (.string s))
        (go_keep) ((go_at_call 241; refine (int_any n _).mono ?_; rintro e w2 ⟨rfl, y⟩; have x2 : Below w.heap.size w w2 := ext_trans y1 (show Below w1.heap.size w1 w2 from ⟨y.os, y.tape, y.output, y.size, y.block⟩); obtain ⟨f0, f1, f2, f3⟩ := box_v ((y.block w.heap.size hlt).trans HBX.out); clear y))
      all_goals go_wp2_with (fail)
      all_goals go_ret
      all_goals exact ⟨ret_boolV HR.out, by first | exact x2 | exact below_draws x2⟩
    · by_cases h3 : k = 3
      · subst h3
        obtain ⟨F, hF⟩ : ∃ X, (floatV f).f = X := ⟨_, rfl⟩
        rw [show mayV ⟨3, n, f, s⟩ = beqV ⟨3, n, f, s⟩ ⟨3, 0, (floatV f).f, ⟨#[]⟩⟩ from rfl, hF] at hR
        have HR := Lib.hid hR
        have HF := Lib.hid hF
        have hn := Int.toNat_of_nonneg hf0
        have HN := Lib.hid hn
        have hfl : f.toNat < 18446744073709551616 := by omega
        clear hR h1 h2 hF hn
        go_enter Tryz.func199, Tryz.ntmps199
        go_wp2_with (fail)
        generalize w.alloc (.cells #[.int .u8 3, .int .i64 n, .int .u64 f, .string s] 43) = w1 at *
        obtain ⟨b0, b1, b2, b3⟩ := box_v HBX.out
        go_region_held3 (fun w' => w'.cell? ⟨w.heap.size, 0, none⟩ = some (.int .u8 3) ∧ w'.cell? ⟨w.heap.size, 1, none⟩ = some (.int .i64 n) ∧ w'.cell? ⟨w.heap.size, 2, none⟩ = some (.int .u64 f) ∧ w'.cell? ⟨w.heap.size, 3, none⟩ = some (.string s))
          (go_keep) ((go_at_call 242; refine (float_any f.toNat _ hfl).mono ?_; rw [HN.out, HF.out]; rintro e w2 ⟨rfl, y⟩; have x2 : Below w.heap.size w w2 := ext_trans y1 (show Below w1.heap.size w1 w2 from ⟨y.os, y.tape, y.output, y.size, y.block⟩); obtain ⟨f0, f1, f2, f3⟩ := box_v ((y.block w.heap.size hlt).trans HBX.out); clear y))
        all_goals go_wp2_with (fail)
        all_goals go_ret
        all_goals exact ⟨ret_boolV HR.out, by first | exact x2 | exact below_draws x2⟩
      · by_cases h4 : k = 4
        · subst h4
          obtain ⟨O, hO⟩ : ∃ X : Bool, decide (s.size ≤ 64 ∧ textOk s = true) = X := ⟨_, rfl⟩
          rw [show mayV ⟨4, n, f, s⟩ = (decide (s.size ≤ 64 ∧ textOk s = true) && beqV ⟨4, n, f, s⟩ ⟨4, 0, 0, s⟩) from rfl, hO] at hR
          have HR := Lib.hid hR
          have HO := Lib.hid hO
          have hT1 := Utf8Tabs_below hT y1
          clear hR h1 h2 h3 hO
          go_enter Tryz.func199, Tryz.ntmps199
          go_wp2_with (go_at_call 244; refine Hid.out ?_)
          generalize w.alloc (.cells #[.int .u8 4, .int .i64 n, .int .u64 f, .string s] 43) = w1 at *
          refine Lib.hid ?_
          obtain ⟨b0, b1, b2, b3⟩ := box_v HBX.out
          refine (text_any s w1 hT1).mono ?_
          rintro e w2 ⟨he, y⟩
          have x2 := ext_trans y1 y
          obtain ⟨f0, f1, f2, f3⟩ := box_v ((y.block w.heap.size hlt).trans HBX.out)
          have hs2 : w.heap.size < w2.heap.size := by have := y.size; omega
          clear y b0 b1 b2 b3
          cases O with
          | true =>
            have ho := of_decide_eq_true HO.out
            rw [if_pos ho, if_pos ho] at he
            subst he
            clear ho
            go_wp2_with (fail)
            go_ret
            exact ⟨ret_boolV (by rw [← HR.out]; rfl), x2.alloc x2.size _⟩
          | false =>
            have ho := of_decide_eq_false HO.out
            rw [if_neg ho, if_neg ho] at he
            subst he
            clear ho
            go_wp2_with (fail)
            go_ret
            exact ⟨ret_boolV (by rw [← HR.out]; rfl), x2.alloc x2.size _⟩
        · have e : mayV ⟨k, n, f, s⟩ = false := by unfold mayV; simp only; rw [if_neg h1, if_neg h2, if_neg h3, if_neg h4]
          rw [e] at hR
          subst hR
          clear e
          have z1 : (k == 1) = false := beq_eq_false_iff_ne.2 h1
          have z2 : (k == 2) = false := beq_eq_false_iff_ne.2 h2
          have z3 : (k == 3) = false := beq_eq_false_iff_ne.2 h3
          have z4 : (k == 4) = false := beq_eq_false_iff_ne.2 h4
          clear h1 h2 h3 h4
          go_enter Tryz.func199, Tryz.ntmps199
          go_wp2_with (fail)
          go_ret
          exact ⟨rfl, y1⟩
end Go.Proofs.YtbdkbfoplpociaaGreatDoor
