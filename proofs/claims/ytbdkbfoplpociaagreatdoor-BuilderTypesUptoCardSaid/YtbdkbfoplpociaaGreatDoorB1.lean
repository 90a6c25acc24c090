/- Merged texts: RuTypes, Eq, RuBytes, PatchFn, Find, PatchLaw, InsOps. -/
import Derived.Test.YtbdkbfoplpociaaGreatDoorK1
import Derived.Test.YtbdkbfoplpociaaGreatDoorK2
import Derived.Test.YtbdkbfoplpociaaGreatDoorK3
import Derived.Test.YtbdkbfoplpociaaGreatDoorK10
import Derived.Test.YtbdkbfoplpociaaGreatDoorK11
import Derived.Lib.Overlaps
import Derived.Test.YtbdkbfoplpociaaGreatDoorK12
namespace Go.Proofs.YtbdkbfoplpociaaGreatDoor
open Go.RowKit
set_option linter.unusedVariables false

theorem encU8_len (a : Int) : (encU8 a).length = 1 := rfl
theorem encU8_one (a : Int) : ∀ u ∈ encU8 a, u.oneCell' = true := by intro u hu; simp [encU8] at hu; rw [hu]; rfl
abbrev OwU8 := @Ow Int encU8 1 5
section
variable {ops : Array Oper} {rest : List Oper} {o : Oper} {a : Act} {Q : Exit → Act → World → Prop} {w : World} {base : Nat} {v : Value}
theorem app_u8 {l m : List Int} (hgd : o.guard = none) (s x : Operand)
    (ho : o.op = .call { callee := .builtin .append, args := #[s, x], argTypes := #[99, 99] })
    (hsv : a.eval s = v) (hown : OwU8 w base v l) (B : Nat) (A : Option Addr) (c n : Nat) (hx : a.eval x = .slice A n c) (hn : n = m.length) (hr : RdU8 w B A m)
    (hb : l.length + m.length ≤ 2000000000000) (hbase : base ≤ w.heap.size)
    (h : ∀ v' w', OwU8 w' base v' (l ++ m) → w.grownBy w' (wb v) → (v' = v ∧ w' = w ∨ wb v' = wb v ∨ wb v' = some w.heap.size) → wpList Tryz.prog ops Q rest (a.put o.dst v') w') : wpList Tryz.prog ops Q (o :: rest) a w := by
  obtain ⟨i0, hi0, hz0, hz1, hz2⟩ := info_of Tryz.infoU8
  exact wpList_app hgd s x _ ho i0 _ 1 Tryz.slU8 hi0 hz0 hz1 hz2 rfl (by omega) encU8_len encU8_one hsv hown B A c n hx hn hr (by simp only [maxLen]; omega) (by omega) hbase h
end
end Go.Proofs.YtbdkbfoplpociaaGreatDoor
namespace Go.Proofs.YtbdkbfoplpociaaGreatDoor
open Go.RowKit

theorem beqV_eq {a b : V} (h : a = b) : beqV a b = true := decide_eq_true h
section
variable (w : World) (q k n f q' k' n' f' : Int) (g g' : Bool) (s s' : ByteArray)
end
end Go.Proofs.YtbdkbfoplpociaaGreatDoor
namespace Go.Proofs.YtbdkbfoplpociaaGreatDoor
open Go.RowKit
set_option linter.unusedVariables false
set_option linter.unusedSimpArgs false

def okR (l : List Int) : Bool := l.all mayR
def bytesR (l : List Int) : List Int := l.flatMap encR
theorem bytesR_take {l : List Int} {i : Nat} {r : Int} (h : l[i]? = some r) : bytesR (l.take (i + 1)) = bytesR (l.take i) ++ encR r := by
  obtain ⟨hi, he⟩ := List.getElem?_eq_some_iff.1 h
  rw [List.take_succ_eq_append_getElem hi, he]
  simp [bytesR]
theorem okR_take {l : List Int} {i : Nat} {r : Int} (h : l[i]? = some r) : okR (l.take (i + 1)) = (okR (l.take i) && mayR r) := by
  obtain ⟨hi, he⟩ := List.getElem?_eq_some_iff.1 h
  rw [List.take_succ_eq_append_getElem hi, he]
  simp [okR, List.all_append]
theorem bytesR_len (l : List Int) : (bytesR l).length ≤ 4 * l.length := by
  induction l with
  | nil => simp [bytesR]
  | cons r l ih =>
    have := (encR_len r).2
    have e : bytesR (r :: l) = encR r ++ bytesR l := rfl
    rw [e, List.length_append, List.length_cons]
    omega
theorem okR_not {l : List Int} {i : Nat} {r : Int} (h : l[i]? = some r) (hr : mayR r = false) : okR l = false := by
  unfold okR
  rw [List.all_eq_false]
  exact ⟨r, List.mem_of_getElem? h, by simp [hr]⟩

/-- what the bytes of runes answer -/
def BytesOut (l : List Int) (w : World) (e : Ending) (w' : World) : Prop :=
  ∃ v, e = .returned (.tuple #[v, .int .i64 (if okR l = true then 0 else 3)]) ∧ OwU8 w' w.heap.size v (if okR l = true then bytesR l else []) ∧ Below w.heap.size w w'

set_option maxHeartbeats 800000 in
theorem refBytes_any (A : Option Addr) (n c : Nat) (l : List Int) (w : World) (hn : n = l.length) (h : RdI32 w w.heap.size A l) (hb : n ≤ 100000000) :
    Calls Tryz.prog 76 #[.slice A n c] w (BytesOut l w) := by
  have N := Lib.hid hn
  clear hn
  go_enter Tryz.func76, Tryz.ntmps76
  go_wp2_with (fail)
  go_loopg [4, 5] n (fun g bv iv wr => ∃ (i : Nat) (w1 : World) (b : List Int) (bs : Value), i ≤ n ∧ g = n - i ∧ iv = .int .i64 (i : Int) ∧ w1 = wr ∧ bs = bv ∧ Hid (b = bytesR (l.take i)) ∧ Hid (okR (l.take i) = true) ∧ OwU8 w1 w.heap.size bs b ∧ Below w.heap.size w w1)
  case atStart => exact ⟨0, w, [], _, by omega, rfl, rfl, rfl, rfl, Lib.hid (by simp [bytesR]), Lib.hid (by simp [okR]), Ow.nil _ _, Below.refl _ _⟩
  case round =>
    obtain ⟨i, w1, b, bs, hi, hg, rfl, rfl, rfl, HB, HO, hown, hx⟩ := hrel
    have HG := Lib.hid hg
    clear hg
    have hbl : b.length ≤ 400000000 := by
      have t := bytesR_len (l.take i)
      rw [← HB.out, List.length_take] at t
      have := N.out
      omega
    by_cases hlt : i < n
    · have r1 := h.ext hx
      obtain ⟨ad, r, rfl, _, _, hri, hc1⟩ := r1.el (i := i) (by have := N.out; omega)
      have HRI := Lib.hid hri
      have r0 : w1.cell? (ad.add (i * 1)) = some (.int .i32 r) := by have := hc1 0 _ rfl; rwa [add_zero'] at this
      rw [Nat.mul_one] at r0
      clear hc1 hri
      cases hm : mayR r with
      | false =>
        have HM := Lib.hid (okR_not HRI.out hm)
        go_wp2_with (go_at_call 155; refine (refMay_any r w1).mono ?_; rintro e w2 ⟨rfl, rfl⟩; rw [hm])
        refine bodyPost_ret (v := .tuple #[.slice none 0 0, .int .i64 3]) (by simp [results, Tryz.results76, go_sem]) rfl ?_
        exact ⟨.slice none 0 0, by rw [if_neg (by rw [HM.out]; simp)], by rw [if_neg (by rw [HM.out]; simp)]; exact Ow.nil _ _, hx⟩
      | true =>
        have hlo := (mayR_le hm).1
        have hhi := (mayR_le hm).2
        have hel := (encR_len r).2
        have HO1 : Hid (okR (l.take (i + 1)) = true) := Lib.hid (by rw [okR_take HRI.out, HO.out, hm]; rfl)
        have HB1 : Hid (b ++ encR r = bytesR (l.take (i + 1))) := Lib.hid (by rw [bytesR_take HRI.out, HB.out])
        go_wp2_with (first
          | (go_at_call 155; refine (refMay_any r w1).mono ?_; rintro e w2 ⟨rfl, rfl⟩; rw [hm])
          | (go_at_call 156; refine Hid.out ?_))
        refine Lib.hid ?_
        refine (one_any r w1 hlo hhi).mono ?_
        rintro e w2 ⟨A2, c2, rfl, rr, y⟩
        generalize encR r = er at *
        obtain ⟨k, hk⟩ : ∃ k, k = er.length := ⟨_, rfl⟩
        rw [← hk] at hel ⊢
        have K := Lib.hid hk
        clear hk
        have ho2 := hown.below y (Nat.le_refl _)
        have hx2 := ext_trans hx y
        go_wp2_with (at_builtin; refine app_u8 (m := er) rfl (.tmp 18) (.tmp 23) rfl rfl ho2 _ _ _ _ rfl K.out rr (by have := K.out; omega) hx2.size ?_; intro v' w' hown' hgr hv')
        have hx3 : Below w.heap.size w w' := hx2.grown hgr hx2.size (fun k hk => (ho2.wb_lt k hk).1)
        go_roundg (n - (i + 1))
        case measure => have := HG.out; omega
        case rel => exact ⟨i + 1, w', _, _, by omega, rfl, by go_num, rfl, rfl, HB1, HO1, hown', hx3⟩
    · have e : l.take i = l := List.take_of_length_le (by have := N.out; omega)
      have HB1 : Hid (b = bytesR l) := Lib.hid (by rw [HB.out, e])
      have HO1 : Hid (okR l = true) := Lib.hid (by rw [← HO.out, e])
      clear e HB HO
      go_wp2_with (fail)
      refine bodyPost_ret (v := .tuple #[bs, .int .i64 0]) (by simp [results, Tryz.results76, go_sem]) rfl ?_
      exact ⟨bs, by rw [if_pos HO1.out], by rw [if_pos HO1.out, ← HB1.out]; exact hown, hx⟩
end Go.Proofs.YtbdkbfoplpociaaGreatDoor
namespace Go.Proofs.YtbdkbfoplpociaaGreatDoor

def getA (l : List At) (key : Int) : Option V := (l.find? (fun a => decide (a.key = key))).map (·.v)
end Go.Proofs.YtbdkbfoplpociaaGreatDoor
namespace Go.Proofs.YtbdkbfoplpociaaGreatDoor
open Go.RowKit
set_option linter.unusedVariables false
set_option linter.unusedSimpArgs false

theorem BsInv.start (l : List At) (key : Int) : BsInv l key 0 l.length :=
  ⟨Nat.zero_le _, Nat.le_refl _, fun _ => ⟨fun x a h => by omega, fun x a h h1 => by rw [List.getElem?_eq_none h] at h1; cases h1⟩⟩
set_option maxHeartbeats 400000 in
theorem findCmp_any (k a n f key : Int) (s : ByteArray) (w : World) :
    Calls Tryz.prog 264 #[.agg #[.int .i64 k, .int .u8 a, .int .i64 n, .int .u64 f, .string s], .int .i64 key] w fun e w' => e = .returned (.int .i64 (cmpI k key)) ∧ Below w.heap.size w w' := by
  go_enter Tryz.func264, Tryz.ntmps264
  go_wp2_with (go_at_call 94; refine (compare_any _ _ _).mono ?_; rintro e w' ⟨rfl, rfl⟩)
  go_ret
  exact ⟨rfl, (Below.refl _ _).alloc (Nat.le_refl _) _⟩

set_option maxRecDepth 100000 in
set_option maxHeartbeats 400000 in
theorem bsearch_any (A : Option Addr) (n c : Nat) (l : List At) (key : Int) (w : World) (hn : n = l.length) (h : RdAt w w.heap.size A l) (hb : n ≤ 140737488355328) :
    Calls Tryz.prog 263 #[.slice A n c, .int .i64 key, .func (.func 264) #[] #[]] w fun e w' =>
      ∃ (i : Nat) (b : Bool), e = .returned (.tuple #[.int .i64 (i : Int), .bool b]) ∧ FindOut l key i b ∧ Below w.heap.size w w' := by
  have N := Lib.hid hn
  clear hn
  go_enter Tryz.func263, Tryz.ntmps263
  go_wp2_with (fail)
  go_loopg [9, 10] n (fun g iv jv wr => ∃ i j : Nat, g = j - i ∧ iv = .int .i64 (i : Int) ∧ jv = .int .i64 (j : Int) ∧ BsInv l key i j ∧ Below w.heap.size w wr)
  case atStart => exact ⟨0, n, rfl, rfl, rfl, by rw [N.out]; exact BsInv.start l key, Below.refl _ _⟩
  case round =>
    obtain ⟨i, j, hg, rfl, rfl, hinv, hbw⟩ := hrel
    have HG := Lib.hid hg
    clear hg
    have hij : i ≤ j := hinv.1
    have hjn : j ≤ n := by have := hinv.2.1; rw [N.out]; exact this
    by_cases hlt : i < j
    · have hm1 : i ≤ (i + j) / 2 := by omega
      have hm2 : (i + j) / 2 < j := by omega
      obtain ⟨ad, x, rfl, _, _, hx, hc1⟩ := (h.below hbw (Nat.le_refl _)).el (i := (i + j) / 2) (by have := N.out; omega)
      obtain ⟨x1, x2, x3, x4, x5⟩ := x
      obtain ⟨r0, r1, r2, r3, r4⟩ := at_cells hc1
      have HX := Lib.hid hx
      clear hx hc1
      by_cases hk : x1 < key
      · have hcmp : cmpI x1 key = -1 := by simp [cmpI, hk]
        go_wp2_with (go_at_call 264; refine (findCmp_any _ _ _ _ _ _ _).mono ?_; rintro e w' ⟨rfl, hb'⟩)
        have hbw' := hbw.trans (hb'.mono hbw.size)
        go_roundg (j - ((i + j) / 2 + 1))
        case measure => have := HG.out; omega
        case rel => exact ⟨(i + j) / 2 + 1, j, rfl, by go_num, rfl, hinv.up hm2 HX.out hk, hbw'⟩
      · have hcmp : cmpI x1 key = 0 ∨ cmpI x1 key = 1 := by unfold cmpI; by_cases h2 : key < x1 <;> simp [hk, h2]
        have hcmp' : (decide (cmpI x1 key < 0)) = false := by rcases hcmp with h | h <;> simp [h]
        go_wp2_with (go_at_call 264; refine (findCmp_any _ _ _ _ _ _ _).mono ?_; rintro e w' ⟨rfl, hb'⟩)
        have hbw' := hbw.trans (hb'.mono hbw.size)
        go_roundg ((i + j) / 2 - i)
        case measure => have := HG.out; omega
        case rel => exact ⟨i, (i + j) / 2, rfl, rfl, by go_num, hinv.down hm1 hm2 HX.out (by show ¬ x1 < key; omega), hbw'⟩
    · by_cases hin : i < n
      · obtain ⟨ad, x, rfl, _, _, hx, hc1⟩ := (h.below hbw (Nat.le_refl _)).el (i := i) (by have := N.out; omega)
        obtain ⟨x1, x2, x3, x4, x5⟩ := x
        obtain ⟨r0, r1, r2, r3, r4⟩ := at_cells hc1
        have HX := Lib.hid hx
        clear hx hc1
        by_cases hk : x1 = key
        · have hcmp : (cmpI x1 key == 0) = true := by simp [cmpI, hk]
          have HK := Lib.hid hk
          clear hk
          go_wp2_with (go_at_call 264; refine (findCmp_any _ _ _ _ _ _ _).mono ?_; rintro e w' ⟨rfl, hb'⟩)
          go_ret2
          exact ⟨i, true, rfl, hinv.done hlt (by simpa using ⟨_, HX.out, HK.out⟩), hbw.trans (hb'.mono hbw.size)⟩
        · have hcmp : (cmpI x1 key == 0) = false := by
            unfold cmpI
            by_cases h1 : x1 < key <;> by_cases h2 : key < x1 <;> simp [h1, h2]
            omega
          go_wp2_with (go_at_call 264; refine (findCmp_any _ _ _ _ _ _ _).mono ?_; rintro e w' ⟨rfl, hb'⟩)
          go_ret2
          exact ⟨i, false, rfl, hinv.done hlt (by simp [HX.out, hk]), hbw.trans (hb'.mono hbw.size)⟩
      · go_wp2_with (fail)
        go_ret2
        have hl : l[i]? = none := List.getElem?_eq_none (by have := N.out; omega)
        exact ⟨i, false, rfl, hinv.done hlt (by simp [hl]), hbw⟩

set_option maxHeartbeats 400000 in
theorem find_any (A : Option Addr) (n c : Nat) (l : List At) (key : Int) (w : World) (hn : n = l.length) (h : RdAt w w.heap.size A l) (hb : n ≤ 140737488355328) :
    Calls Tryz.prog 246 #[.slice A n c, .int .i64 key] w fun e w' =>
      ∃ (i : Nat) (b : Bool), e = .returned (.tuple #[.int .i64 (i : Int), .bool b]) ∧ FindOut l key i b ∧ Below w.heap.size w w' := by
  have N := Lib.hid hn
  clear hn
  go_enter Tryz.func246, Tryz.ntmps246
  go_wp2_with (go_at_call 263; refine (bsearch_any A n c l key _ N.out h hb).mono ?_; rintro e w' ⟨i, b, rfl, hf, hb'⟩)
  go_ret2
  exact ⟨i, b, rfl, hf, hb'⟩

theorem getA_hit {l : List At} (hr : riseA l = true) {i : Nat} {a : At} (h : l[i]? = some a) : getA l a.key = some a.v := by
  unfold getA
  have : l.find? (fun b => decide (b.key = a.key)) = some a := by
    induction l generalizing i with
    | nil => simp at h
    | cons c l ih =>
      cases i with
      | zero => simp at h; subst h; simp
      | succ i =>
        have hlt : c.key < a.key := rise_lt hr (x := 0) (y := i + 1) (by omega) rfl h
        rw [List.find?_cons_of_neg (by simp; omega)]
        exact ih (rise_tail (a := c.key) (l := l.map At.key) hr) (by rw [List.getElem?_cons_succ] at h; exact h)
  rw [this]; rfl
theorem getA_miss {l : List At} {key : Int} (h : ∀ a ∈ l, a.key ≠ key) : getA l key = none := by
  unfold getA
  rw [List.find?_eq_none.2 (by intro a ha; simpa using h a ha)]; rfl

/-- what attrs.Get answers -/
def GetOut (l : List At) (key : Int) (v : V) (b : Bool) : Prop :=
  (b = true → ∃ a ∈ l, a.key = key ∧ a.v = v) ∧ (b = false → v = V.zero) ∧ (riseA l = true → getA l key = if b then some v else none)

set_option maxHeartbeats 400000 in
theorem get_any (A : Option Addr) (n c : Nat) (l : List At) (key : Int) (w : World) (hn : n = l.length) (h : RdAt w w.heap.size A l) (hb : n ≤ 140737488355328) :
    Calls Tryz.prog 214 #[.slice A n c, .int .i64 key] w fun e w' =>
      ∃ (v : V) (b : Bool), e = .returned (.tuple #[.agg #[.int .u8 v.k, .int .i64 v.n, .int .u64 v.f, .string v.s], .bool b]) ∧ GetOut l key v b ∧ Below w.heap.size w w' := by
  have N := Lib.hid hn
  clear hn
  go_enter Tryz.func214, Tryz.ntmps214
  go_wp2_with (fail)
  refine (find_any A n c l key _ N.out ((h.alloc (Nat.le_refl _) _).more (by simp)) hb).mono ?_
  rintro e w1 ⟨i, b, rfl, hf, hb1⟩
  have hbx := (hb1.block w.heap.size (by simp)).trans (heap_alloc_new w _)
  have hbw : Below w.heap.size w w1 := ((Below.refl _ _).alloc (Nat.le_refl _) _).trans (hb1.mono (by simp))
  have hlt1 : w.heap.size < w1.heap.size := by have := hb1.size; simp at this; omega
  obtain ⟨b0, b1, b2, b3⟩ := box_v hbx
  have hfr := box_free hbx
  obtain ⟨f0, f1, f2, f3⟩ : w1.frozen? ⟨w.heap.size, 0, none⟩ = false ∧ w1.frozen? ⟨w.heap.size, 1, none⟩ = false ∧ w1.frozen? ⟨w.heap.size, 2, none⟩ = false ∧ w1.frozen? ⟨w.heap.size, 3, none⟩ = false := ⟨hfr 0, hfr 1, hfr 2, hfr 3⟩
  clear hfr hbx
  cases b with
  | false =>
    go_wp2_with (fail)
    refine bodyPost_ret (v := .tuple #[.agg #[.int .u8 0, .int .i64 0, .int .u64 0, .string ⟨#[]⟩], .bool false]) (by simp [results, Tryz.results214, go_sem, b0, b1, b2, b3]) rfl ⟨V.zero, false, rfl, ⟨by simp, fun _ => rfl, fun hr => ?_⟩, ?_⟩
    · refine getA_miss fun a ha e => ?_
      obtain ⟨j, hj⟩ := List.getElem?_of_mem ha
      obtain ⟨_, h2, h3⟩ := hf
      have h4 := (h3 hr).1 j a
      have h5 := (h3 hr).2 j a
      rcases Nat.lt_or_ge j i with hlt | hge
      · have := h4 hlt hj; omega
      · rcases Nat.eq_or_lt_of_le hge with he | hgt
        · subst he
          have := h2.2 ⟨a, hj, e⟩
          cases this
        · have hi : i < l.length := by have := (List.getElem?_eq_some_iff.1 hj).1; omega
          have h6 := (h3 hr).2 i _ (Nat.le_refl _) (List.getElem?_eq_getElem hi)
          have h7 := rise_lt hr hgt (List.getElem?_eq_getElem hi) hj
          omega
    · exact (((hbw.setCell (by simp) _).setCell (by simp) _).setCell (by simp) _).setCell (by simp) _
  | true =>
    obtain ⟨x, hx, hxk⟩ := hf.2.1.1 rfl
    have hil : i < l.length := (List.getElem?_eq_some_iff.1 hx).1
    obtain ⟨ad, y, rfl, _, _, hy, hc1⟩ := (h.below hbw (Nat.le_refl _)).el hil
    rw [hx] at hy
    injection hy with hy
    subst hy
    have hin : i < n := by have := N.out; omega
    have HX := Lib.hid hx
    have HXK := Lib.hid hxk
    clear hx hxk hf
    obtain ⟨x1, x2, x3, x4, x5⟩ := x
    obtain ⟨r0, r1, r2, r3, r4⟩ := at_cells hc1
    go_wp2_with (fail)
    refine bodyPost_ret (v := .tuple #[.agg #[.int .u8 x2, .int .i64 x3, .int .u64 x4, .string x5], .bool true]) (by simp [results, Tryz.results214, go_sem, b0, b1, b2, b3]) rfl ⟨⟨x2, x3, x4, x5⟩, true, rfl, ⟨fun _ => ⟨_, List.mem_of_getElem? HX.out, HXK.out, rfl⟩, by simp, fun hr => ?_⟩, ?_⟩
    · rw [← HXK.out]; exact getA_hit hr HX.out
    · exact (((hbw.setCell (by simp) _).setCell (by simp) _).setCell (by simp) _).setCell (by simp) _
end Go.Proofs.YtbdkbfoplpociaaGreatDoor
namespace Go.Proofs.YtbdkbfoplpociaaGreatDoor
set_option linter.unusedVariables false
set_option linter.unusedSimpArgs false

section
variable {α : Type} (key : α → Int)
end

theorem getA_lk (l : List At) (k : Int) : getA l k = (lk At.key l k).map (·.v) := rfl

section
variable {a b : List At} {p q r : List Ch}
end
end Go.Proofs.YtbdkbfoplpociaaGreatDoor
namespace Go.Proofs.YtbdkbfoplpociaaGreatDoor
open Go.RowKit
set_option linter.unusedVariables false

section
variable {P : Program} (w : World)

/-- copy onto a row of cells -/
theorem run_copy_onto (dT sT ty elem : TypeId) (i0 : TypeInfo) (size : Nat) (hu : P.underlying dT = some (.slice elem)) (hi : P.info? elem = some i0) (hsz : i0.size = size)
    (g o dLen dCap : Nat) (a : Addr) (sLen sCap : Nat) (cur : Array Value) (t : TypeId) (cs : List Value)
    (hg : w.heap[g]? = some (.cells cur t (0, 0))) (hn : cs.length = (Nat.min sLen dLen) * size)
    (hsrc : ∀ j v, cs[j]? = some v → w.cell? (a.add j) = some v) (hfit : o + cs.length ≤ cur.size) (h1 : ∀ v ∈ cs, v.oneCell' = true) :
    (Builtin.copy_ #[dT, sT] ty #[.slice (some ⟨g, o, none⟩) dLen dCap, .slice (some a) sLen sCap]).run P w =
      .ok (goInt (Nat.min sLen dLen)) (w.setRow g (cur.toList.take o ++ cs ++ cur.toList.drop (o + cs.length)).toArray) := by
  have hl := run_loadCells_list (P := P) w a cs hsrc
  have hst := run_storeCells_at P g o t cs 0 cur w hg (by simpa using hfit) h1
  simp [Builtin.copy_, run_underlying hu, Builtin.lenOf, Builtin.firstCells, sizeOf, typeInfo, hi, hsz, ← hn, hl, hst]

/-- append of zeros where a new row is wanted -/
theorem run_append_zeros_grow (t tn ty e : TypeId) (i : TypeInfo) (z : Value) (k kn : IntKind) (ht : P.underlying t = some (.slice e)) (htn : P.underlying tn = some (.int kn)) (hi : P.info? e = some i) (hz : i.zero = some z)
    (b : Addr) (sLen sCap n : Nat) (olds : List Value) (hlo : olds.length = sLen * i.size) (holds : ∀ j v, olds[j]? = some v → w.cell? (b.add j) = some v)
    (hg : sCap < sLen + n) (h0 : 0 < n) (hs : 0 < i.size) (hb1 : sLen + n ≤ 1000000000) (hb2 : i.bytes ≤ 1000)  :
    (Builtin.append_ #[t, tn] ty #[.slice (some b) sLen sCap, .int k n]).run P w =
      .ok (.slice (some ⟨w.heap.size, 0, none⟩) (sLen + n) (grownCap w (sLen + n) sCap e))
        (w.drew.alloc (.cells (olds.toArray ++ Builtin.zeroCells z.cells n ++ Builtin.zeroCells z.cells (grownCap w (sLen + n) sCap e - (sLen + n))) e)) := by
  have hmul : (sLen + n) * i.bytes ≤ 1000000000 * 1000 := Nat.mul_le_mul hb1 hb2
  have hmul2 : n * i.bytes ≤ 1000000000 * 1000 := Nat.mul_le_mul (by omega) hb2
  have hfit : Builtin.nextslicecap (sLen + n) sCap * i.bytes ≤ 281474976710656 := growslice_fits hg (by omega)
  have hn : ¬ (sLen + n ≤ sCap) := by omega
  have h63' : ¬ (9223372036854775807 < ((sLen : Int) + (n : Int))) := by omega
  have h48' : ¬ (281474976710656 < Builtin.nextslicecap (sLen + n) sCap * i.bytes) := by omega
  have hw : IntKind.i64.wrap (n : Int) = n := by rw [IntKind.wrap_i64]; omega
  have h48i : ¬ (281474976710656 < (n : Int) * (i.bytes : Int)) := by
    rw [← Int.natCast_mul]
    omega
  have hneg : ¬ ((n : Int) < 0) := by omega
  have hns : ¬ (n * i.size = 0) := Nat.mul_ne_zero (by omega) (by omega)
  have hfo := run_firstCells_some (P := P) w.drew i.size sLen b sLen sCap olds hlo (by simpa using holds)
  simp [Builtin.append_, run_underlying ht, run_underlying htn, sizeOf, typeInfo, zeroValue, hi, hz, asInt, asIntOf, hw, hn, hneg, hns, h63', h48', h48i, Question.forced, hfo, newRow, grownCap]
end

section
variable {P : Program} {w : World} {ops : Array Oper} {rest : List Oper} {o : Oper} {a : Act} {Q : Exit → Act → World → Prop} {K : Act → World → Prop} {E : Prop}
theorem wp_copy_run (d s : Operand) (dT sT : TypeId) (ho : o.op = .call { callee := .builtin .copy, args := #[d, s], argTypes := #[dT, sT] })
    (vd vs : Value) (hd : a.eval d = vd) (hs : a.eval s = vs) (v : Value) (w' : World) (hr : (Builtin.copy_ #[dT, sT] o.type #[vd, vs]).run P w = .ok v w') (h : K (a.put o.dst v) w') : o.wp P a w K Q := by
  unfold Oper.wp execOp
  simp only [ho, resolve, invoke, builtin, Sem.run_bind, Sem.run_pure, Result.andThen_ok, List.map_toArray, List.map_cons, List.map_nil, hd, hs, hr]
  exact h
theorem wpList_copy_run (hgd : o.guard = none) (d s : Operand) (dT sT : TypeId) (ho : o.op = .call { callee := .builtin .copy, args := #[d, s], argTypes := #[dT, sT] })
    (vd vs : Value) (hd : a.eval d = vd) (hs : a.eval s = vs) (v : Value) (w' : World) (hr : (Builtin.copy_ #[dT, sT] o.type #[vd, vs]).run P w = .ok v w') (h : wpList P ops Q rest (a.put o.dst v) w') : wpList P ops Q (o :: rest) a w :=
  wpList_plain hgd fun _ hK => wp_copy_run d s dT sT ho vd vs hd hs v w' hr (hK _ _ h)
theorem step_copy_run (hgd : o.guard = none) (d s : Operand) (dT sT : TypeId) (ho : o.op = .call { callee := .builtin .copy, args := #[d, s], argTypes := #[dT, sT] })
    (vd vs : Value) (hd : a.eval d = vd) (hs : a.eval s = vs) (v : Value) (w' : World) (hr : (Builtin.copy_ #[dT, sT] o.type #[vd, vs]).run P w = .ok v w') (h : K (a.put o.dst v) w') :
    if Region.wanted o (yielded ops a.tmps) = true then Oper.wp P o a w K Q else E := by
  have hw : Region.wanted o (yielded ops a.tmps) = true := by simp [Region.wanted, hgd]
  rw [if_pos hw]
  exact wp_copy_run d s dT sT ho vd vs hd hs v w' hr h
end
end Go.Proofs.YtbdkbfoplpociaaGreatDoor
