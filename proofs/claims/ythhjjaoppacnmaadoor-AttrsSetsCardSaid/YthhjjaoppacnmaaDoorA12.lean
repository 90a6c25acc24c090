/- Merged texts: With, DelWithout, AttrsOps, AttrsLaw, KeepK, PartALaw, PartA. -/
import Derived.Deep.RegionHeld3
import Derived.Test.YthhjjaoppacnmaaDoorA11
import Derived.Test.YthhjjaoppacnmaaDoorA10
import Derived.Test.YthhjjaoppacnmaaDoorA9
import Derived.Test.YthhjjaoppacnmaaDoorA8
import Derived.Test.YthhjjaoppacnmaaDoorA2
import Derived.Test.YthhjjaoppacnmaaDoorA1
namespace Go.Proofs.YthhjjaoppacnmaaDoor
open Go.RowKit
set_option linter.unusedVariables false
set_option linter.unusedSimpArgs false

theorem insert_any (A : Option Addr) (n c base gv i : Nat) (l : List At) (x1 x2 x3 x4 : Int) (x5 : ByteArray) (w : World) (hown : OwAt w base (.slice A n c) l) (hn : n = l.length) (hb : n ≤ 100000000) (hbase : base ≤ w.heap.size)
    (hv : w.heap[gv]? = some (.cells #[.int .i64 x1, .int .u8 x2, .int .i64 x3, .int .u64 x4, .string x5] 28 (0, 0))) (hi : i ≤ n) (hne : wb (.slice A n c) ≠ some gv) :
    Calls Tryd.prog 42 #[.slice A n c, .int .i64 (i : Int), .slice (some ⟨gv, 0, none⟩) 1 1] w fun e w' =>
      ∃ A' c', e = .returned (.slice A' (n + 1) c') ∧ OwAt w' base (.slice A' (n + 1) c') (insP l i ⟨x1, ⟨x2, x3, x4, x5⟩⟩) ∧ Below base w w' := by
  rcases Nat.eq_or_lt_of_le hi with rfl | hlt
  · exact insert_end A i c base gv l x1 x2 x3 x4 x5 w hown hn hb hbase hv
  · rcases Nat.lt_or_ge c (n + 1) with h | h
    · exact insert_grow A n c base gv i l x1 x2 x3 x4 x5 w hown hn hb hbase hv hlt h
    · exact insert_room A n c base gv i l x1 x2 x3 x4 x5 w hown hn hb hbase hv hlt h hne

def withP (l : List At) (a : At) : List At := applyP [⟨a.key, false, a.v⟩] l
theorem tw_take (p : At → Bool) (l : List At) (i : Nat) (h1 : ∀ x a, x < i → l[x]? = some a → p a = true) (h2 : ∀ a, l[i]? = some a → p a = false) : l.takeWhile p = l.take i ∧ l.dropWhile p = l.drop i := by
  induction l generalizing i with
  | nil => simp
  | cons a l ih =>
    cases i with
    | zero => have := h2 a rfl; simp [List.takeWhile_cons, List.dropWhile_cons, this]
    | succ i =>
      have ha := h1 0 a (by omega) rfl
      obtain ⟨e1, e2⟩ := ih i (fun x b hx hb => h1 (x + 1) b (by omega) (by rw [List.getElem?_cons_succ]; exact hb)) (fun b hb => h2 b (by rw [List.getElem?_cons_succ]; exact hb))
      simp [List.takeWhile_cons, List.dropWhile_cons, ha, e1, e2]
theorem withP_at {l : List At} {a : At} {i : Nat} {b : Bool} (h : FindOut l a.key i b) (hr : riseA l = true) : withP l a = if b = true then l.set i a else insP l i a := by
  obtain ⟨h1, h2, h3⟩ := h
  obtain ⟨h4, h5⟩ := h3 hr
  obtain ⟨e1, e2⟩ := tw_take (fun x => decide (x.key < a.key)) l i (fun x y hx hy => by simpa using h4 x y hx hy) (fun y hy => by have := h5 i y (Nat.le_refl _) hy; simp; omega)
  have e : withP l a = l.takeWhile (fun x => decide (x.key < a.key)) ++ ([a] ++ drop1 a.key (l.dropWhile (fun x => decide (x.key < a.key)))) := by
    simp [withP, applyP, put1]
  rw [e, e1, e2]
  cases b with
  | true =>
    obtain ⟨y, hy, hk⟩ := h2.1 rfl
    have hi : i < l.length := (List.getElem?_eq_some_iff.1 hy).1
    have hd : l.drop i = y :: l.drop (i + 1) := by
      rw [List.drop_eq_getElem_cons hi]
      have := (List.getElem?_eq_some_iff.1 hy).2
      rw [this]
    rw [if_pos rfl, List.set_eq_take_append_cons_drop, if_pos hi, hd]
    simp [drop1, hk]
  | false =>
    rw [if_neg (by simp)]
    have hd : drop1 a.key (l.drop i) = l.drop i := by
      cases hl : l.drop i with
      | nil => rfl
      | cons y t =>
        have hy : l[i]? = some y := by
          have := congrArg (fun t => t[0]?) hl
          simpa [List.getElem?_drop] using this
        have : ¬ y.key = a.key := fun hk => by have := h2.2 ⟨y, hy, hk⟩; cases this
        simp [drop1, this]
    rw [hd]
    rfl

theorem up_drew {B : Nat} {a b : World} (h : Below B a b) : Below B a b.drew := ⟨h.1, h.2, h.3, h.4, h.5⟩
theorem up_alloc {a b : World} (h : Below a.heap.size a b) (o : Obj) : Below a.heap.size a (b.alloc o) := ext_trans h (ext_alloc b o)
theorem clone_n (A : Option Addr) (n c : Nat) (l : List At) (w0 w : World) (hn : n = l.length) (h : RdAt w0 w0.heap.size A l) (hb : n ≤ 10000000) (hw : Below w0.heap.size w0 w) :
    Calls Tryd.prog 40 #[.slice A n c] w fun e w' => ∃ A' c', e = .returned (.slice A' n c') ∧ OwAt w' w.heap.size (.slice A' n c') l ∧ Below w0.heap.size w0 w' ∧ Below w.heap.size w w' := by
  subst hn
  refine (cloneAt_any A l.length c l w rfl (h.ext hw) (by omega)).mono ?_
  rintro e w2 ⟨A2, c2, rfl, ho, hb2⟩
  exact ⟨A2, c2, rfl, ho, ext_trans hw hb2, hb2⟩

theorem insert_n (A : Option Addr) (n c base gv i : Nat) (l : List At) (x1 x2 x3 x4 : Int) (x5 : ByteArray) (w0 w1 w : World) (hown : OwAt w base (.slice A n c) l) (hn : n = l.length) (hb : n ≤ 10000000) (hlo : w1.heap.size ≤ base) (hbase : base ≤ w.heap.size)
    (hv : w.heap[gv]? = some (.cells #[.int .i64 x1, .int .u8 x2, .int .i64 x3, .int .u64 x4, .string x5] 28 (0, 0))) (hi : i ≤ n) (hne : wb (.slice A n c) ≠ some gv) (h0 : Below w0.heap.size w0 w1) (h1 : Below w1.heap.size w1 w) :
    Calls Tryd.prog 42 #[.slice A n c, .int .i64 (i : Int), .slice (some ⟨gv, 0, none⟩) 1 1] w fun e w' =>
      ∃ A' c', e = .returned (.slice A' (n + 1) c') ∧ OwAt w' w0.heap.size (.slice A' (n + 1) c') (insP l i ⟨x1, ⟨x2, x3, x4, x5⟩⟩) ∧ Below w0.heap.size w0 w' ∧ Below w1.heap.size w1 w' := by
  refine (insert_any A n c base gv i l x1 x2 x3 x4 x5 w hown hn (by omega) hbase hv hi hne).mono ?_
  rintro e w3 ⟨A3, c3, rfl, ho3, hb3⟩
  exact ⟨A3, c3, rfl, ho3.base_le (Nat.le_trans h0.size hlo), ext_trans h0 (h1.trans (hb3.mono hlo)), h1.trans (hb3.mono hlo)⟩

/-- what attrs.With answers -/
def WithOut (l : List At) (a : At) (w : World) (e : Ending) (w' : World) : Prop :=
  ∃ r, (riseA l = true → r = withP l a) ∧ r.length ≤ l.length + 1 ∧ NewAt r w e w'

set_option maxRecDepth 100000 in
set_option maxHeartbeats 1000000 in
theorem with_any (A : Option Addr) (n c : Nat) (l : List At) (x1 x2 x3 x4 : Int) (x5 : ByteArray) (w : World) (hn : n = l.length) (h : RdAt w w.heap.size A l) (hb : n ≤ 10000000) :
    Calls Tryd.prog 16 #[.slice A n c, .agg #[.int .i64 x1, .int .u8 x2, .int .i64 x3, .int .u64 x4, .string x5]] w (WithOut l ⟨x1, ⟨x2, x3, x4, x5⟩⟩ w) := by
  have N := Lib.hid hn
  clear hn
  go_enter Tryd.func16, Tryd.ntmps16
  go_wp2_with (go_at_call 41; refine Hid.out ?_)
  refine Lib.hid ?_
  have y := ext_alloc w (.cells #[.int .i64 x1, .int .u8 x2, .int .i64 x3, .int .u64 x4, .string x5] 28)
  have hbx0 := heap_alloc_new w (.cells #[.int .i64 x1, .int .u8 x2, .int .i64 x3, .int .u64 x4, .string x5] 28)
  refine (find_any A n c l x1 _ N.out (h.ext y) (by omega)).mono ?_
  rintro e w1 ⟨i, b, rfl, hf, hb1⟩
  have hbx1 := (hb1.block w.heap.size (blk_lt hbx0)).trans hbx0
  have hbw := ext_trans y hb1
  have r1 := h.ext hbw
  have hlt := blk_lt hbx1
  obtain ⟨b0, b1, b2, b3, b4⟩ := box_at hbx1
  have HBX := Lib.hid hbx1
  clear y hbx0 hb1 hbx1
  have hin : i ≤ n := by rw [N.out]; exact hf.1
  have hw := withP_at (l := l) (a := ⟨x1, ⟨x2, x3, x4, x5⟩⟩) hf
  have HW := Lib.hid hw
  have HF := Lib.hid hf
  clear hw hf
  cases b with
  | true =>
    have hil : i < n := by
      obtain ⟨z, hz, _⟩ := HF.out.2.1.1 rfl
      have := (List.getElem?_eq_some_iff.1 hz).1
      rw [N.out]; exact this
    go_wp2_with (go_at_call 40; refine Hid.out ?_)
    refine Lib.hid ?_
    refine (cloneAt_any A n c l w1 N.out r1 (by omega)).mono ?_
    rintro e w2 ⟨A2, c2, rfl, ho, hb2⟩
    rw [← N.out] at ho ⊢
    have hbx2 := (hb2.block w.heap.size hlt).trans HBX.out
    obtain ⟨g, cur, hA2, -⟩ := ho.row (by rw [← N.out]; omega)
    subst hA2
    obtain ⟨d0, d1, d2, d3, d4⟩ := box_at hbx2
    obtain ⟨i1, hi1, hz1, hz2, hz3⟩ := info_parts Tryd.infoAt
    have I1 := Lib.hid hi1
    have Z2 := Lib.hid hz2
    have hil' : i < l.length := by have := N.out; omega
    clear hi1 hz1 hz2 hz3 b0 b1 b2 b3 b4 hbx2
    go_wp2_with (refine wpList_set_own rfl 28 (.tmp 20) (.tmp 19) rfl rfl i1 I1.out Z2.out At.enc_len At.enc_one ho hil' ⟨x1, ⟨x2, x3, x4, x5⟩⟩ (cs := #[.int .i64 x1, .int .u8 x2, .int .i64 x3, .int .u64 x4, .string x5]) rfl (p := (⟨g, 0, none⟩ : Addr).add (i * 5)) rfl (by first | rfl | (rw [add_row]; rfl)) rfl ?_; intro w3 ho3 hg3)
    have hbw2 := ext_trans hbw hb2
    have hbw3 : Below w.heap.size w w3 := hbw2.grown hg3 hbw2.size (fun k hk => Nat.le_trans hbw.size (ho.wb_lt k hk).1)
    have e : n = (l.set i ⟨x1, ⟨x2, x3, x4, x5⟩⟩).length := by rw [List.length_set]; exact N.out
    go_ret
    refine ⟨l.set i ⟨x1, ⟨x2, x3, x4, x5⟩⟩, fun hr => (HW.out hr).symm, by rw [List.length_set]; omega, some ⟨g, 0, none⟩, c2, by rw [← e]; rfl, by rw [← e]; exact ho3.base_le hbw.size, hbw3⟩
  | false =>
    have hil' : i ≤ l.length := by have := N.out; omega
    go_wp2_with (fail)
    go_region_held3 (fun w' => w'.cell? ⟨w.heap.size, 0, none⟩ = some (.int .i64 x1) ∧ w'.cell? ⟨w.heap.size, 1, none⟩ = some (.int .u8 x2) ∧ w'.cell? ⟨w.heap.size, 2, none⟩ = some (.int .i64 x3) ∧ w'.cell? ⟨w.heap.size, 3, none⟩ = some (.int .u64 x4) ∧ w'.cell? ⟨w.heap.size, 4, none⟩ = some (.string x5))
      (go_keep) (first
        | (go_at_call 40
           refine (clone_n A n c l w1 w1.drew N.out r1 (by omega) (up_drew (Below.refl _ _))).mono ?_
           rintro e w2 ⟨A2, c2, rfl, ho, hb2, hb3⟩
           obtain ⟨f0, f1, f2, f3, f4⟩ := box_at ((hb2.block w.heap.size hlt).trans HBX.out))
        | (go_at_call 40
           refine (clone_n A n c l w1 _ N.out r1 (by omega) (up_alloc (up_drew (Below.refl _ _)) _)).mono ?_
           rintro e w2 ⟨A2, c2, rfl, ho, hb2, hb3⟩
           obtain ⟨f0, f1, f2, f3, f4⟩ := box_at ((hb2.block w.heap.size hlt).trans HBX.out))
        | (go_at_call 42
           have q := insert_n A2 n c2 w1.drew.heap.size w2.heap.size i l x1 x2 x3 x4 x5 w w1 (w2.alloc (.cells #[.int .i64 x1, .int .u8 x2, .int .i64 x3, .int .u64 x4, .string x5] 28)) (ho.alloc (.cells #[.int .i64 x1, .int .u8 x2, .int .i64 x3, .int .u64 x4, .string x5] 28)) N.out hb (Nat.le_refl _) (by rw [World.size_alloc]; exact Nat.le_succ_of_le hb3.size) (heap_alloc_new w2 (.cells #[.int .i64 x1, .int .u8 x2, .int .i64 x3, .int .u64 x4, .string x5] 28)) hin (fun h => absurd (ho.wb_lt _ h).2 (Nat.lt_irrefl _)) hbw (up_alloc hb2 (.cells #[.int .i64 x1, .int .u8 x2, .int .i64 x3, .int .u64 x4, .string x5] 28))
           refine q.mono ?_
           clear q
           rintro e w3 ⟨A3, c3, rfl, ho3, hbw3, hb3⟩
           obtain ⟨g0, g1, g2, g3, g4⟩ := box_at ((hb3.block w.heap.size hlt).trans HBX.out))
        | (go_at_call 42
           have q := insert_n A2 n c2 (w1.drew.alloc (.cells #[.int .i64 x1, .int .u8 x2, .int .i64 x3, .int .u64 x4, .string x5] 28)).heap.size w1.drew.heap.size i l x1 x2 x3 x4 x5 w w1 w2 ho N.out hb (ext_alloc w1.drew (.cells #[.int .i64 x1, .int .u8 x2, .int .i64 x3, .int .u64 x4, .string x5] 28)).size hb3.size ((hb3.block w1.drew.heap.size (by rw [World.size_alloc]; exact Nat.lt_succ_self _)).trans (heap_alloc_new w1.drew (.cells #[.int .i64 x1, .int .u8 x2, .int .i64 x3, .int .u64 x4, .string x5] 28))) hin (fun h => absurd (ho.wb_lt _ h).1 (by rw [World.size_alloc]; exact Nat.not_succ_le_self _)) hbw hb2
           refine q.mono ?_
           clear q
           rintro e w3 ⟨A3, c3, rfl, ho3, hbw3, hb4⟩
           obtain ⟨g0, g1, g2, g3, g4⟩ := box_at ((hb4.block w.heap.size hlt).trans HBX.out)))
    all_goals go_wp2_with (fail)
    all_goals go_ret
    all_goals exact ⟨insP l i ⟨x1, ⟨x2, x3, x4, x5⟩⟩, fun hr => (HW.out hr).symm, by rw [insP_len _ _ _ hil']; exact Nat.le_refl _, A3, c3, by rw [insP_len _ _ _ hil', ← N.out]; rfl, by rw [insP_len _ _ _ hil', ← N.out]; exact ho3, hbw3⟩
end Go.Proofs.YthhjjaoppacnmaaDoor
namespace Go.Proofs.YthhjjaoppacnmaaDoor
open Go.RowKit
set_option linter.unusedVariables false
set_option linter.unusedSimpArgs false

set_option maxRecDepth 100000 in
set_option maxHeartbeats 400000 in
theorem indexWithout_any (b1 : Nat) (pr : At → Bool) (A : Option Addr) (n c : Nat) (l : List At) (w : World) (hn : n = l.length) (h : RdAt w w.heap.size A l) (hb : n ≤ 140737488355328)
    (hcl : ∀ (x1 x2 x3 x4 : Int) (x5 : ByteArray) (w' : World), Below w.heap.size w w' → Calls Tryd.prog 44 #[.agg #[.int .i64 x1, .int .u8 x2, .int .i64 x3, .int .u64 x4, .string x5], .pointer (some ⟨b1, 0, none⟩)] w' fun e w'' => e = .returned (.bool (pr ⟨x1, ⟨x2, x3, x4, x5⟩⟩)) ∧ Below w'.heap.size w' w'') :
    Calls Tryd.prog 66 #[.slice A n c, .func (.func 44) #[] #[.pointer (some ⟨b1, 0, none⟩)]] w fun e w' => ∃ i : Int, e = .returned (.int .i64 i) ∧ IdxOut pr l i ∧ Below w.heap.size w w' := by
  have N := Lib.hid hn
  have HCL := Lib.hid hcl
  clear hn hcl
  go_enter Tryd.func66, Tryd.ntmps66
  go_wp2_with (fail)
  go_loopg [8] n (fun g iv wr => ∃ i : Nat, i ≤ n ∧ g = n - i ∧ iv = .int .i64 i ∧ Below w.heap.size w wr ∧ Hid (∀ x ∈ l.take i, pr x = false))
  case atStart => exact ⟨0, by omega, rfl, rfl, Below.refl _ _, Lib.hid (by simp)⟩
  case round =>
    obtain ⟨i, hi, hg, rfl, hbw, HI⟩ := hrel
    have HG := Lib.hid hg
    clear hg
    by_cases hlt : i < n
    · have hil : i < l.length := by have := N.out; omega
      obtain ⟨ad, x, rfl, _, _, hx, hc1⟩ := (h.below hbw (Nat.le_refl _)).el hil
      have HT : Hid (l.take (i + 1) = l.take i ++ [x]) := Lib.hid (by rw [List.take_add_one, hx]; rfl)
      have HX := Lib.hid hx
      clear hx hil
      obtain ⟨x1, x2, x3, x4, x5⟩ := x
      obtain ⟨r0, r1, r2, r3, r4⟩ := at_cells hc1
      clear hc1
      by_cases hp : pr ⟨x1, ⟨x2, x3, x4, x5⟩⟩ = true
      · go_wp2_with (go_at_call 44; refine (HCL.out _ _ _ _ _ _ hbw).mono ?_; rintro e w' ⟨rfl, hb'⟩)
        go_ret
        exact ⟨i, rfl, .inr ⟨i, rfl, by have := N.out; omega, HI.out, _, HX.out, hp⟩, hbw.trans (hb'.mono hbw.size)⟩
      · have hp' : pr ⟨x1, ⟨x2, x3, x4, x5⟩⟩ = false := by simpa using hp
        clear hp
        go_wp2_with (go_at_call 44; refine (HCL.out _ _ _ _ _ _ hbw).mono ?_; rintro e w' ⟨rfl, hb'⟩)
        have hbw' := hbw.trans (hb'.mono hbw.size)
        go_roundg (n - (i + 1))
        case measure => have := HG.out; omega
        case rel =>
          refine ⟨i + 1, by omega, rfl, by go_num, hbw', Lib.hid ?_⟩
          intro y hy
          rw [HT.out] at hy
          rcases List.mem_append.1 hy with hy | hy
          · exact HI.out y hy
          · simp at hy; rw [hy]; exact hp'
    · go_wp2_with (fail)
      go_ret
      refine ⟨-1, rfl, .inl ⟨rfl, ?_⟩, hbw⟩
      have h1 := HI.out
      rw [List.take_of_length_le (by have := N.out; omega)] at h1
      exact h1

set_option maxRecDepth 100000 in
set_option maxHeartbeats 1000000 in
theorem deleteWithout_any (b1 : Nat) (pr : At → Bool) (A : Option Addr) (n c base : Nat) (l : List At) (w : World) (hown : OwAt w base (.slice A n c) l) (hbase : base ≤ w.heap.size) (hb : n ≤ 100000000) (hn : n = l.length)
    (hcl : ∀ (x1 x2 x3 x4 : Int) (x5 : ByteArray) (w' : World), Below base w w' → Calls Tryd.prog 44 #[.agg #[.int .i64 x1, .int .u8 x2, .int .i64 x3, .int .u64 x4, .string x5], .pointer (some ⟨b1, 0, none⟩)] w' fun e w'' => e = .returned (.bool (pr ⟨x1, ⟨x2, x3, x4, x5⟩⟩)) ∧ Below w'.heap.size w' w'') :
    Calls Tryd.prog 43 #[.slice A n c, .func (.func 44) #[] #[.pointer (some ⟨b1, 0, none⟩)]] w fun e w' =>
      ∃ A' c', e = .returned (.slice A' (l.filter (fun x => !pr x)).length c') ∧ OwAt w' base (.slice A' (l.filter (fun x => !pr x)).length c') (l.filter (fun x => !pr x)) ∧ Below base w w' := by
  have N := Lib.hid hn
  have HCL := Lib.hid hcl
  have hcap := hown.cap
  have hlc : n ≤ c := by rw [hn]; exact hcap.1
  have hcm : c ≤ 2 ^ 63 - 1 := hcap.2
  clear hn hcl hcap
  generalize hR : l.filter (fun x => !pr x) = R
  have HR := Lib.hid hR
  clear hR
  go_enter Tryd.func43, Tryd.ntmps43
  go_wp2_with (go_at_call 66; refine Hid.out ?_)
  refine Lib.hid ?_
  refine (indexWithout_any b1 pr A n c l w N.out (hown.rd At.enc_len) (by omega) (fun x1 x2 x3 x4 x5 w' hb' => HCL.out x1 x2 x3 x4 x5 w' (hb'.mono hbase))).mono ?_
  rintro e w1 ⟨ix, rfl, hix, hb1⟩
  have hbw1 : Below base w w1 := hb1.mono hbase
  have hown1 := hown.below hb1 (Nat.le_refl _)
  have hbase1 : base ≤ w1.heap.size := Nat.le_trans hbase hb1.size
  clear hown hb1
  rcases hix with ⟨rfl, hall⟩ | ⟨i0, rfl, hi0, hpre, x0, hx0, hpx0⟩
  · have hRl : R = l := by
      rw [← HR.out]
      exact List.filter_eq_self.2 (fun x hx => by simp [hall x hx])
    have HRL := Lib.hid hRl
    clear hRl hall
    go_wp2_with (fail)
    go_ret
    refine ⟨A, c, ?_, ?_, hbw1⟩
    · rw [HRL.out, ← N.out]; rfl
    · rw [HRL.out, ← N.out]; exact hown1
  · have hne : ((i0 : Int) == -1) = false := beq_eq_false_iff_ne.2 (by omega)
    have hi0n : i0 < n := by rw [N.out]; exact hi0
    have hst : Hid (l.take i0 = (l.take (i0 + 1)).filter (fun x => !pr x)) := Lib.hid (by
      rw [List.take_add_one, hx0, List.filter_append, List.filter_eq_self.2 (fun x hx => by simp [hpre x hx])]
      simp [hpx0])
    clear hpre hx0 hpx0 hi0
    go_wp2_with (fail)
    go_loopg [5, 6] (n - (i0 + 1)) (fun g iv jv wr => ∃ (i j : Nat) (m : List At), i < j ∧ j ≤ n ∧ g = n - j ∧ iv = .int .i64 i ∧ jv = .int .i64 j ∧ OwAt wr base (.slice A n c) m ∧ base ≤ wr.heap.size ∧ Below base w wr ∧
      Hid (m.length = n ∧ m.drop j = l.drop j ∧ m.take i = (l.take j).filter (fun x => !pr x)))
    case atStart => exact ⟨i0, i0 + 1, l, by omega, by omega, rfl, rfl, by go_num, hown1, hbase1, hbw1, Lib.hid ⟨N.out.symm, rfl, hst.out⟩⟩
    case round =>
      clear hown1 hbase1 hbw1 hst hne hi0n
      obtain ⟨i, j, m, hij, hj, hg, rfl, rfl, hown, hbs, hbw, HI⟩ := hrel
      have HG := Lib.hid hg
      clear hg
      by_cases hlt : j < n
      · have hjm : j < m.length := by have := HI.out.1; omega
        obtain ⟨ad, x, rfl, _, hdm, hx, hc1⟩ := (hown.rd At.enc_len).el hjm
        have HX : Hid (l.take (j + 1) = l.take j ++ [x] ∧ m.drop (j + 1) = l.drop (j + 1)) := Lib.hid (by
          obtain ⟨h1, h2, h3⟩ := HI.out
          have h4 : l[j]? = some x := by
            have := congrArg (fun t => t[0]?) h2
            simp only [List.getElem?_drop, Nat.add_zero] at this
            rw [← this, hx]
          refine ⟨by rw [List.take_add_one, h4]; rfl, ?_⟩
          have := congrArg (fun t => t.drop 1) h2
          simpa [List.drop_drop] using this)
        clear hdm hx hjm
        obtain ⟨x1, x2, x3, x4, x5⟩ := x
        obtain ⟨r0, r1, r2, r3, r4⟩ := at_cells hc1
        clear hc1
        have hbx0 := heap_alloc_new wr (.cells #[.int .i64 x1, .int .u8 x2, .int .i64 x3, .int .u64 x4, .string x5] 28)
        have hbwA := hbw.alloc hbs (.cells #[.int .i64 x1, .int .u8 x2, .int .i64 x3, .int .u64 x4, .string x5] 28)
        have hownA := hown.alloc (.cells #[.int .i64 x1, .int .u8 x2, .int .i64 x3, .int .u64 x4, .string x5] 28)
        have hsz := size_alloc' wr (.cells #[.int .i64 x1, .int .u8 x2, .int .i64 x3, .int .u64 x4, .string x5] 28)
        have hwbA : ∀ k, wb (.slice (some ad) n c) = some k → k < wr.heap.size := fun k hk => (hown.wb_lt k hk).2
        by_cases hp : pr ⟨x1, ⟨x2, x3, x4, x5⟩⟩ = true
        · have HBX0 := Lib.hid hbx0
          have HWB := Lib.hid hwbA
          have HSZ := Lib.hid hsz
          clear hbx0 hwbA hsz
          go_wp2_with (go_at_call 44; refine (HCL.out _ _ _ _ _ _ hbwA).mono ?_; rintro e w2 ⟨rfl, hb2⟩)
          have hbw2 : Below base w w2 := hbwA.trans (hb2.mono (by rw [← HSZ.out]; omega))
          have hown2 := hownA.below hb2 (Nat.le_refl _)
          have hbs2 : base ≤ w2.heap.size := by have := hb2.size; rw [← HSZ.out] at this; omega
          go_roundg (n - (j + 1))
          case measure => have := HG.out; omega
          case rel =>
            obtain ⟨h1, h2, h3⟩ := HI.out
            obtain ⟨h4, h5⟩ := HX.out
            exact ⟨i, j + 1, m, by omega, by omega, rfl, rfl, by go_num, hown2, hbs2, hbw2, Lib.hid ⟨h1, h5, by rw [h4, List.filter_append, h3]; simp [hp]⟩⟩
        · have hp' : pr ⟨x1, ⟨x2, x3, x4, x5⟩⟩ = false := by simpa using hp
          clear hp
          have HBX0 := Lib.hid hbx0
          have HWB := Lib.hid hwbA
          have HSZ := Lib.hid hsz
          clear hbx0 hwbA hsz
          go_wp2_with (go_at_call 44; refine Hid.out ?_)
          refine Lib.hid ?_
          refine (HCL.out _ _ _ _ _ _ hbwA).mono ?_
          rintro e w2 ⟨rfl, hb2⟩
          have hbw2 : Below base w w2 := hbwA.trans (hb2.mono (by rw [← HSZ.out]; omega))
          have hown2 := hownA.below hb2 (Nat.le_refl _)
          have hbs2 : base ≤ w2.heap.size := by have := hb2.size; rw [← HSZ.out] at this; omega
          have hbx2 := (hb2.block wr.heap.size (by rw [← HSZ.out]; omega)).trans HBX0.out
          obtain ⟨b0, b1, b2, b3, b4⟩ := box_at hbx2
          have him : i < m.length := by have := HI.out.1; omega
          have hin : i < n := by omega
          clear hbx2
          obtain ⟨i1, hi1, hz1, hz2, hz3⟩ := info_parts Tryd.infoAt
          have I1 := Lib.hid hi1
          have Z2 := Lib.hid hz2
          clear hi1 hz1 hz2 hz3 hownA hbwA
          go_wp2_with (refine wpList_set_own rfl 28 (.tmp 33) (.tmp 32) rfl rfl i1 I1.out Z2.out At.enc_len At.enc_one hown2 him ⟨x1, ⟨x2, x3, x4, x5⟩⟩ (cs := #[.int .i64 x1, .int .u8 x2, .int .i64 x3, .int .u64 x4, .string x5]) rfl (p := ad.add (i * 5)) rfl rfl rfl ?_; intro w3 hown3 hg3)
          have hbw3 : Below base w w3 := hbw2.grown hg3 hbs2 (fun k hk => (hown2.wb_lt k hk).1)
          have hbs3 : base ≤ w3.heap.size := Nat.le_trans hbs2 hg3.size
          go_roundg (n - (j + 1))
          case measure => have := HG.out; omega
          case rel =>
            obtain ⟨h1, h2, h3⟩ := HI.out
            obtain ⟨h4, h5⟩ := HX.out
            refine ⟨i + 1, j + 1, m.set i ⟨x1, ⟨x2, x3, x4, x5⟩⟩, by omega, by omega, rfl, by go_num, by go_num, hown3, hbs3, hbw3, Lib.hid ⟨by rw [List.length_set]; exact h1, by rw [List.drop_set_of_lt (by omega)]; exact h5, ?_⟩⟩
            rw [h4, List.filter_append, List.take_add_one, List.getElem?_set_self him, List.take_set_of_le (Nat.le_refl i), h3]
            simp [hp']
      · have hjn : j = n := by omega
        have hm0 := HI.out
        obtain ⟨i1, hi1, hz1, hz2, hz3⟩ := info_parts Tryd.infoAt
        have I1 := Lib.hid hi1
        have Z1 := Lib.hid hz1
        have hmR : m.take i = R := by
          obtain ⟨h1, h2, h3⟩ := hm0
          rw [h3, ← HR.out, List.take_of_length_le (by have := N.out; omega)]
        have him : i ≤ m.length := by have := hm0.1; omega
        have hiR : i = R.length := by rw [← hmR, List.length_take, Nat.min_eq_left him]
        have HIR := Lib.hid hiR
        have HMR := Lib.hid hmR
        have HML : Hid (m.length = n) := Lib.hid hm0.1
        clear hi1 hz1 hz2 hz3 hmR hiR hm0 hjn
        rcases Nat.lt_or_ge i c with hci | hci
        · have hne : ¬ c = i := by omega
          go_wp2_with (refine wpList_clear_own (i := i) (X := A.map (fun x => x.add (i * 5))) rfl (.tmp 38) _ rfl rfl Tryd.slAt i1 _ I1.out Z1.out rfl (by intro u hu; exact At.enc_one ⟨0, V.zero⟩ u hu) At.enc_len hown him (by exact .inr rfl) (by rw [HML.out]) rfl ?_; intro w3 hown3 hg3)
          have hbw3 : Below base w w3 := hbw.grown hg3 hbs (fun k hk => (hown.wb_lt k hk).1)
          rw [HMR.out] at hown3
          have hri := HIR.out
          subst hri
          go_ret
          exact ⟨A, c, rfl, hown3, hbw3⟩
        · go_wp2_with (refine wpList_clear_own (i := i) (X := A) rfl (.tmp 38) _ rfl rfl Tryd.slAt i1 _ I1.out Z1.out rfl (by intro u hu; exact At.enc_one ⟨0, V.zero⟩ u hu) At.enc_len hown him (by have := HML.out; left; omega) (by rw [HML.out]) rfl ?_; intro w3 hown3 hg3)
          have hbw3 : Below base w w3 := hbw.grown hg3 hbs (fun k hk => (hown.wb_lt k hk).1)
          rw [HMR.out] at hown3
          have hri := HIR.out
          subst hri
          go_ret
          exact ⟨A, c, rfl, hown3, hbw3⟩
end Go.Proofs.YthhjjaoppacnmaaDoor
namespace Go.Proofs.YthhjjaoppacnmaaDoor
open Go.RowKit
set_option linter.unusedVariables false
set_option linter.unusedSimpArgs false

set_option maxRecDepth 100000 in
set_option maxHeartbeats 400000 in
theorem equalA_any (A B : Option Addr) (n m c d : Nat) (l k : List At) (w : World) (hn : n = l.length) (hm : m = k.length) (h1 : RdAt w w.heap.size A l) (h2 : RdAt w w.heap.size B k) (hb : n ≤ 140737488355328) (hb2 : m ≤ 140737488355328) :
    Calls Tryd.prog 39 #[.slice A n c, .slice B m d] w (Quiet (.bool (decide (l = k))) w) := by
  have N := Lib.hid hn
  have M := Lib.hid hm
  generalize hR : decide (l = k) = R
  have HR := Lib.hid hR
  clear hn hR hm
  by_cases hnm : (n : Int) = m
  · have hnm' : n = m := by omega
    subst hnm'
    clear hnm
    go_enter Tryd.func39, Tryd.ntmps39
    go_wp2_with (fail)
    go_loopg [13] n (fun g iv wr => ∃ i : Nat, i ≤ n ∧ g = n - i ∧ iv = .int .i64 (i : Int) ∧ (∃ d, wr = w.drewN d) ∧ Hid (decide (l.drop i = k.drop i) = R))
    case atStart => exact ⟨0, by omega, rfl, rfl, ⟨0, rfl⟩, Lib.hid (by rw [List.drop_zero, List.drop_zero]; exact HR.out)⟩
    case round =>
      obtain ⟨i, hi, hg, rfl, ⟨q, rfl⟩, HI⟩ := hrel
      have HG := Lib.hid hg
      clear hg HR
      by_cases hlt : i < n
      · have hl1 : i < l.length := by have := N.out; omega
        have hl2 : i < k.length := by have := M.out; omega
        obtain ⟨ad, x, rfl, _, hd1, _, hc1⟩ := h1.el hl1
        obtain ⟨ad2, y, rfl, _, hd2, _, hc2⟩ := h2.el hl2
        have HI' : Hid (decide (x :: l.drop (i + 1) = y :: k.drop (i + 1)) = R) := Lib.hid (by rw [← HI.out, hd1, hd2])
        clear HI hd1 hd2
        obtain ⟨x1, x2, x3, x4, x5⟩ := x
        obtain ⟨y1, y2, y3, y4, y5⟩ := y
        obtain ⟨r0, r1, r2, r3, r4⟩ := at_cells hc1
        obtain ⟨s0, s1, s2, s3, s4⟩ := at_cells hc2
        by_cases hxy : (⟨x1, ⟨x2, x3, x4, x5⟩⟩ : At) = ⟨y1, ⟨y2, y3, y4, y5⟩⟩
        · have hq := beqAt_eq hxy
          have HXY := Lib.hid hxy
          clear hxy
          go_wp2_with (go_quiet (fail))
          go_roundg (n - (i + 1))
          case measure => have := HG.out; omega
          case rel => exact ⟨i + 1, by omega, rfl, by go_num, ⟨_, rfl⟩, Lib.hid (by rw [← HI'.out]; simp only [List.cons.injEq, HXY.out, true_and])⟩
        · have hq := beqAt_ne hxy
          have HXY := Lib.hid hxy
          clear hxy
          go_wp2_with (go_quiet (fail))
          go_ret
          exact ⟨ret_bool (by rw [← HI'.out]; exact (decide_eq_false fun e => HXY.out (List.cons.inj e).1).symm), _, World.drewN_drewN _ _ _⟩
      · go_wp2_with (fail)
        go_ret
        exact ⟨ret_bool (by rw [← HI.out, List.drop_eq_nil_of_le (by have := N.out; omega), List.drop_eq_nil_of_le (by have := M.out; omega)]; rfl), _, rfl⟩
  · have hne : ((n : Int) == m) = false := beq_eq_false_iff_ne.2 hnm
    go_enter Tryd.func39, Tryd.ntmps39
    go_wp2_with (fail)
    go_ret
    refine ⟨ret_bool ?_, 0, rfl⟩
    rw [← HR.out]
    refine (decide_eq_false fun e => ?_).symm
    have h3 := N.out
    have h4 := M.out
    rw [e] at h3
    omega

set_option maxHeartbeats 400000 in
theorem attrsSame_any (A B : Option Addr) (n m c d : Nat) (l k : List At) (w : World) (hn : n = l.length) (hm : m = k.length) (h1 : RdAt w w.heap.size A l) (h2 : RdAt w w.heap.size B k) (hb : n ≤ 140737488355328) (hb2 : m ≤ 140737488355328) :
    Calls Tryd.prog 11 #[.slice A n c, .slice B m d] w (Quiet (.bool (decide (l = k))) w) := by
  have N := Lib.hid hn
  have M := Lib.hid hm
  clear hn hm
  go_enter Tryd.func11, Tryd.ntmps11
  go_wp2_with (go_at_call 39; refine (equalA_any A B n m c d l k _ N.out M.out h1 h2 hb hb2).mono ?_; rintro e w' ⟨rfl, q, rfl⟩)
  go_ret
  exact ⟨rfl, _, rfl⟩

set_option maxHeartbeats 400000 in
theorem copy_any (A : Option Addr) (n c : Nat) (l : List At) (w : World) (hn : n = l.length) (h : RdAt w w.heap.size A l) (hb : n ≤ 100000000) :
    Calls Tryd.prog 13 #[.slice A n c] w (NewAt l w) := by
  have N := Lib.hid hn
  clear hn
  go_enter Tryd.func13, Tryd.ntmps13
  go_wp2_with (go_at_call 40; refine Hid.out ?_)
  refine Lib.hid ?_
  refine (cloneAt_any A n c l w N.out h hb).mono ?_
  rintro e w2 ⟨A2, c2, rfl, ho, hb2⟩
  generalize hq : l.length = q at *
  go_wp2_with (fail)
  go_ret
  exact ⟨A2, c2, by rw [hq]; rfl, by rw [hq]; exact ho, hb2⟩

set_option maxHeartbeats 400000 in
theorem without_cl (b : Nat) (ck k a n f : Int) (s : ByteArray) (w : World) (hc : w.cell? ⟨b, 0, none⟩ = some (.int .i64 ck)) (hbl : b < w.heap.size) :
    Calls Tryd.prog 44 #[.agg #[.int .i64 k, .int .u8 a, .int .i64 n, .int .u64 f, .string s], .pointer (some ⟨b, 0, none⟩)] w fun e w' => e = .returned (.bool (k == ck)) ∧ Below w.heap.size w w' := by
  have hne : ¬ b = w.heap.size := by omega
  go_enter Tryd.func44, Tryd.ntmps44
  go_wp2_with (fail)
  go_ret
  exact ⟨rfl, ext_alloc w _⟩

def withoutP (l : List At) (k : Int) : List At := l.filter (fun x => !(x.key == k))

set_option maxHeartbeats 400000 in
theorem without_any (A : Option Addr) (n c : Nat) (l : List At) (k : Int) (w : World) (hn : n = l.length) (h : RdAt w w.heap.size A l) (hb : n ≤ 100000000) :
    Calls Tryd.prog 17 #[.slice A n c, .int .i64 k] w (NewAt (withoutP l k) w) := by
  have N := Lib.hid hn
  clear hn
  go_enter Tryd.func17, Tryd.ntmps17
  go_wp2_with (go_at_call 40; refine Hid.out ?_)
  refine Lib.hid ?_
  have hbx := heap_alloc_new w (.cells #[.int .i64 k] 3)
  have y := ext_alloc w (.cells #[.int .i64 k] 3)
  have hsz := size_alloc' w (.cells #[.int .i64 k] 3)
  refine (cloneAt_any A n c l _ N.out (h.ext y) hb).mono ?_
  rintro e w1 ⟨A1, c1, rfl, ho, hb1⟩
  rw [← N.out] at ho ⊢
  have hbx1 := (hb1.block w.heap.size (by omega)).trans hbx
  have hbw := ext_trans y hb1
  have HBX := Lib.hid hbx1
  have hszb : w.heap.size < w1.heap.size := blk_lt hbx1
  have hsz1 : (w.alloc (.cells #[.int .i64 k] 3)).heap.size ≤ w1.heap.size := hb1.size
  have HSZ := Lib.hid hsz
  have HSZ1 := Lib.hid hsz1
  clear hbx hbx1 hb1 y hsz hsz1
  go_wp2_with (go_at_call 43; refine Hid.out ?_)
  refine Lib.hid ?_
  refine (deleteWithout_any w.heap.size (fun x => x.key == k) A1 n c1 _ l w1 ho HSZ1.out hb N.out ?_).mono ?_
  · intro x1 x2 x3 x4 x5 w' hb'
    have hbx' := (hb'.block w.heap.size (by rw [← HSZ.out]; omega)).trans HBX.out
    exact without_cl w.heap.size k x1 x2 x3 x4 x5 w' (cell_of_one hbx') (blk_lt hbx')
  · rintro e w2 ⟨A', c', rfl, ho2, hb2⟩
    have hbase : w.heap.size ≤ (w.alloc (.cells #[.int .i64 k] 3)).heap.size := by rw [← HSZ.out]; omega
    have ho3 := ho2.base_le hbase
    have hbw2 := hbw.trans (hb2.mono hbase)
    have e : l.filter (fun x => !(x.key == k)) = withoutP l k := rfl
    rw [e] at ho3 ⊢
    generalize withoutP l k = R at *
    go_wp2_with (fail)
    go_ret
    exact ⟨A', c', rfl, ho3, hbw2⟩
end Go.Proofs.YthhjjaoppacnmaaDoor
namespace Go.Proofs.YthhjjaoppacnmaaDoor
set_option linter.unusedVariables false
set_option linter.unusedSimpArgs false

theorem with_all {l : List At} (h : riseA l = true) (a : At) :
    riseA (withP l a) = true ∧ (∀ k, lk At.key (withP l a) k = if a.key = k then some a else lk At.key l k) ∧ (withP l a).length ≤ l.length + 1 := by
  have hs := riseA_srt.1 h
  have hp : Srt Ch.key [(⟨a.key, false, a.v⟩ : Ch)] := (srt_cons Ch.key).2 ⟨by simp, Srt.nil Ch.key⟩
  obtain ⟨h1, h2, _, h4⟩ := apply_all hp hs
  refine ⟨riseA_srt.2 h1, fun k => ?_, by unfold withP; simp at h4; omega⟩
  unfold withP
  rw [h2 k, lk_cons, lk_nil]
  simp only
  split <;> simp [lkApply]

end Go.Proofs.YthhjjaoppacnmaaDoor
namespace Go.Proofs.YthhjjaoppacnmaaDoor

/-- is a key there, and of the kind? -/
def keepK (l : List Ky) (b : Bool) (id : Int) : Bool :=
  match findK l id with
  | none => false
  | some k => k.block == b
end Go.Proofs.YthhjjaoppacnmaaDoor
namespace Go.Proofs.YthhjjaoppacnmaaDoor
set_option linter.unusedVariables false
set_option linter.unusedSimpArgs false

/-- the attributes of block keys, or of inline ones -/
def partS (l : List Ky) (b : Bool) (p : List At) : List At := p.filter (fun c => keepK l b c.key)
end Go.Proofs.YthhjjaoppacnmaaDoor
namespace Go.Proofs.YthhjjaoppacnmaaDoor
open Go.RowKit
set_option linter.unusedVariables false
set_option linter.unusedSimpArgs false

set_option maxHeartbeats 1600000 in
theorem partClA_any (s b1 b2 : Nat) (l : List Ky) (b : Bool) (x1 x2 x3 x4 : Int) (x5 : ByteArray) (w : World) (hS : Sch w s l)
    (h1 : w.heap[b1]? = some (.cells #[.pointer (some ⟨s, 0, none⟩)] 31 (0, 0))) (h2 : w.heap[b2]? = some (.cells #[.bool b] 4 (0, 0))) :
    Calls Tryd.prog 45 #[.agg #[.int .i64 x1, .int .u8 x2, .int .i64 x3, .int .u64 x4, .string x5], .pointer (some ⟨b1, 0, none⟩), .pointer (some ⟨b2, 0, none⟩)] w fun e w' => e = .returned (.bool (!keepK l b x1)) ∧ Below w.heap.size w w' := by
  have y0 := ext_alloc w (.cells #[.int .i64 x1, .int .u8 x2, .int .i64 x3, .int .u64 x4, .string x5] 28)
  have c1 := box_1 ((y0.block b1 (lt_of_some h1)).trans h1)
  have g2 := (y0.block b2 (lt_of_some h2)).trans h2
  have HS := Lib.hid (hS.ext y0)
  have G2 := Lib.hid g2
  clear g2 hS
  go_enter Tryd.func45, Tryd.ntmps45
  go_wp2_with (go_at_call 46; refine Hid.out ?_)
  refine Lib.hid ?_
  generalize hw0 : w.alloc _ = w0 at *
  clear hw0
  refine (findS_any s l x1 w0 HS.out).mono ?_
  rintro e w1 ⟨i, c, kd, d, g, q, ok, rfl, hk, hb, y1⟩
  have y2 := ext_alloc w1 (.cells #[.int .i64 i, .bool c, .int .u8 kd, .bool d, .bool g, .int .i64 q] 62)
  have g3 := (y1.block b2 (lt_of_some G2.out)).trans G2.out
  have c2 := box_1 ((y2.block b2 (lt_of_some g3)).trans g3)
  have yy := ext_trans y0 (ext_trans y1 y2)
  have HB := Lib.hid hb
  have HK := Lib.hid hk
  clear g3 hk hb
  cases ok with
  | false =>
    have HE : Hid (keepK l b x1 = false) := Lib.hid (by
      have h := HB.out
      unfold keepK
      cases hq : findK l x1 with
      | none => rfl
      | some k => rw [hq] at h; cases h)
    go_wp2_with (fail)
    go_ret
    exact ⟨ret_bool (by rw [HE.out]; rfl), yy⟩
  | true =>
    have HE : Hid (keepK l b x1 = (c == b)) := Lib.hid (by
      have h := HB.out
      have h2 := HK.out
      unfold keepK
      cases hq : findK l x1 with
      | none => rw [hq] at h; cases h
      | some k => rw [hq] at h2; simp at h2; subst h2; rfl)
    go_wp2_with (fail)
    go_ret
    exact ⟨ret_bool (by rw [HE.out] <;> (cases c <;> cases b <;> rfl)), yy⟩

set_option maxRecDepth 100000 in
set_option maxHeartbeats 1600000 in
theorem partA_any (s : Nat) (l : List Ky) (b : Bool) (A : Option Addr) (n c : Nat) (p : List At) (w : World) (hn : n = p.length) (h : RdAt w w.heap.size A p) (hb : n ≤ 100000000) (hS : Sch w s l) :
    Calls Tryd.prog 18 #[.pointer (some ⟨s, 0, none⟩), .slice A n c, .bool b] w (NewAt (partS l b p) w) := by
  have N := Lib.hid hn
  have ya := ext_alloc w (.cells #[.pointer (some ⟨s, 0, none⟩)] 31)
  have yb := ext_alloc (w.alloc (.cells #[.pointer (some ⟨s, 0, none⟩)] 31)) (.cells #[.bool b] 4)
  have g1 := heap_alloc_new w (.cells #[.pointer (some ⟨s, 0, none⟩)] 31)
  have g2 := heap_alloc_new (w.alloc (.cells #[.pointer (some ⟨s, 0, none⟩)] 31)) (.cells #[.bool b] 4)
  have G1 := Lib.hid ((yb.block w.heap.size (by simp)).trans g1)
  rw [World.size_alloc] at g2
  have G2 := Lib.hid g2
  have y := ext_trans ya yb
  have hh := h.ext y
  have HS := Lib.hid (hS.ext y)
  clear hn g1 g2 ya yb h hS
  go_enter Tryd.func18, Tryd.ntmps18
  go_wp2_with (go_at_call 40; refine Hid.out ?_)
  refine Lib.hid ?_
  refine (cloneAt_any A n c p _ N.out hh hb).mono ?_
  rintro e w1 ⟨A', c', rfl, hown, y1⟩
  have HOW := Lib.hid hown
  have hsz2 : ((w.alloc (.cells #[.pointer (some ⟨s, 0, none⟩)] 31)).alloc (.cells #[.bool b] 4)).heap.size = w.heap.size + 2 := by simp
  have G1' := Lib.hid ((y1.block w.heap.size (by rw [hsz2]; omega)).trans G1.out)
  have G2' := Lib.hid ((y1.block (w.heap.size + 1) (by rw [hsz2]; omega)).trans G2.out)
  have hb1 : w.heap.size + 2 ≤ w1.heap.size := by have := y1.size; omega
  have HSZ := Lib.hid hsz2
  clear hown hsz2
  go_wp2_with (go_at_call 43; refine Hid.out ?_)
  refine Lib.hid ?_
  refine (deletePartA_any w.heap.size (w.heap.size + 1) (fun c => !keepK l b c.key) A' p.length c' _ p w1 HOW.out (by rw [HSZ.out]; exact hb1) (by have := N.out; omega) rfl ?cl).mono ?_
  case cl =>
    intro x1 x2 x3 x4 x5 w' hb'
    refine partClA_any s _ _ l b x1 x2 x3 x4 x5 w' (HS.out.ext (y1.trans hb')) ?_ ?_
    · exact (hb'.block _ (by rw [HSZ.out]; omega)).trans G1'.out
    · exact (hb'.block _ (by rw [HSZ.out]; omega)).trans G2'.out
  rintro e w2 ⟨A2, c2, rfl, hown2, y2⟩
  have yy : Below w.heap.size w w2 := ext_trans y (y1.trans y2)
  have hf : p.filter (fun x => !!keepK l b x.key) = partS l b p := by simp [partS]
  rw [hf] at hown2 ⊢
  have HO2 := Lib.hid (hown2.base_le (B := w.heap.size) (by rw [HSZ.out]; omega))
  clear hown2 hf
  go_wp2_with (fail)
  go_ret
  exact ⟨A2, c2, rfl, HO2.out, yy⟩
end Go.Proofs.YthhjjaoppacnmaaDoor
