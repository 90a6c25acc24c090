/- The walk of rubricref01.Bytes. -/
import Derived.Test.YteaglmdlghdohaaDoorRuReads
namespace Go.Proofs.YteaglmdlghdohaaDoor
open Go.RowKit
set_option linter.unusedVariables false
set_option linter.unusedSimpArgs false

def okR (l : List Int) : Bool := l.all mayR
def bytesR (l : List Int) : List Int := l.flatMap encR
theorem encR_len (r : Int) : 1 ≤ (encR r).length ∧ (encR r).length ≤ 4 := by
  unfold encR
  split
  · simp
  · split
    · simp
    · split <;> simp
theorem mayR_le {r : Int} (h : mayR r = true) : 0 ≤ r ∧ r ≤ 1114111 := by have := of_decide_eq_true h; omega
theorem bytesR_take {l : List Int} {i : Nat} {r : Int} (h : l[i]? = some r) : bytesR (l.take (i + 1)) = bytesR (l.take i) ++ encR r := by
  obtain ⟨hi, he⟩ := List.getElem?_eq_some_iff.1 h
  rw [List.take_succ_eq_append_getElem hi, he]
  simp [bytesR]
theorem okR_take {l : List Int} {i : Nat} {r : Int} (h : l[i]? = some r) : okR (l.take (i + 1)) = (okR (l.take i) && mayR r) := by
  obtain ⟨hi, he⟩ := List.getElem?_eq_some_iff.1 h
  rw [List.take_succ_eq_append_getElem hi, he]
  simp [okR, List.all_append]
theorem bytesR_len (l : List Int) : (bytesR l).length ≤ 4 * l.length := by
  induction l with
  | nil => simp [bytesR]
  | cons r l ih =>
    have := (encR_len r).2
    have e : bytesR (r :: l) = encR r ++ bytesR l := rfl
    rw [e, List.length_append, List.length_cons]
    omega
theorem okR_not {l : List Int} {i : Nat} {r : Int} (h : l[i]? = some r) (hr : mayR r = false) : okR l = false := by
  unfold okR
  rw [List.all_eq_false]
  exact ⟨r, List.mem_of_getElem? h, by simp [hr]⟩

/-- what the bytes of runes answer -/
def BytesOut (l : List Int) (w : World) (e : Ending) (w' : World) : Prop :=
  ∃ v, e = .returned (.tuple #[v, .int .i64 (if okR l = true then 0 else 3)]) ∧ OwU8 w' w.heap.size v (if okR l = true then bytesR l else []) ∧ Below w.heap.size w w'

set_option maxHeartbeats 800000 in
theorem refBytes_any (A : Option Addr) (n c : Nat) (l : List Int) (w : World) (hn : n = l.length) (h : RdI32 w w.heap.size A l) (hb : n ≤ 100000000) :
    Calls Tryd.prog 9 #[.slice A n c] w (BytesOut l w) := by
  have N := Lib.hid hn
  clear hn
  go_enter Tryd.func9, Tryd.ntmps9
  go_wp2_with (fail)
  go_loopg [4, 5] n (fun g bv iv wr => ∃ (i : Nat) (w1 : World) (b : List Int) (bs : Value), i ≤ n ∧ g = n - i ∧ iv = .int .i64 (i : Int) ∧ w1 = wr ∧ bs = bv ∧ Hid (b = bytesR (l.take i)) ∧ Hid (okR (l.take i) = true) ∧ OwU8 w1 w.heap.size bs b ∧ Below w.heap.size w w1)
  case atStart => exact ⟨0, w, [], _, by omega, rfl, rfl, rfl, rfl, Lib.hid (by simp [bytesR]), Lib.hid (by simp [okR]), Ow.nil _ _, Below.refl _ _⟩
  case round =>
    obtain ⟨i, w1, b, bs, hi, hg, rfl, rfl, rfl, HB, HO, hown, hx⟩ := hrel
    have HG := Lib.hid hg
    clear hg
    have hbl : b.length ≤ 400000000 := by
      have t := bytesR_len (l.take i)
      rw [← HB.out, List.length_take] at t
      have := N.out
      omega
    by_cases hlt : i < n
    · have r1 := h.ext hx
      obtain ⟨ad, r, rfl, _, _, hri, hc1⟩ := r1.el (i := i) (by have := N.out; omega)
      have HRI := Lib.hid hri
      have r0 : w1.cell? (ad.add (i * 1)) = some (.int .i32 r) := by have := hc1 0 _ rfl; rwa [add_zero'] at this
      rw [Nat.mul_one] at r0
      clear hc1 hri
      cases hm : mayR r with
      | false =>
        have HM := Lib.hid (okR_not HRI.out hm)
        go_wp2_with (go_at_call 14; refine (refMay_any r w1).mono ?_; rintro e w2 ⟨rfl, rfl⟩; rw [hm])
        refine bodyPost_ret (v := .tuple #[.slice none 0 0, .int .i64 3]) (by simp [results, Tryd.results9, go_sem]) rfl ?_
        exact ⟨.slice none 0 0, by rw [if_neg (by rw [HM.out]; simp)], by rw [if_neg (by rw [HM.out]; simp)]; exact Ow.nil _ _, hx⟩
      | true =>
        have hlo := (mayR_le hm).1
        have hhi := (mayR_le hm).2
        have hel := (encR_len r).2
        have HO1 : Hid (okR (l.take (i + 1)) = true) := Lib.hid (by rw [okR_take HRI.out, HO.out, hm]; rfl)
        have HB1 : Hid (b ++ encR r = bytesR (l.take (i + 1))) := Lib.hid (by rw [bytesR_take HRI.out, HB.out])
        go_wp2_with (first
          | (go_at_call 14; refine (refMay_any r w1).mono ?_; rintro e w2 ⟨rfl, rfl⟩; rw [hm])
          | (go_at_call 18; refine Hid.out ?_))
        refine Lib.hid ?_
        refine (one_any r w1 hlo hhi).mono ?_
        rintro e w2 ⟨A2, c2, rfl, rr, y⟩
        generalize encR r = er at *
        obtain ⟨k, hk⟩ : ∃ k, k = er.length := ⟨_, rfl⟩
        rw [← hk] at hel ⊢
        have K := Lib.hid hk
        clear hk
        have ho2 := hown.below y (Nat.le_refl _)
        have hx2 := ext_trans hx y
        go_wp2_with (at_builtin; refine app_u8 (m := er) rfl (.tmp 18) (.tmp 23) rfl rfl ho2 _ _ _ _ rfl K.out rr (by have := K.out; omega) hx2.size ?_; intro v' w' hown' hgr hv')
        have hx3 : Below w.heap.size w w' := hx2.grown hgr hx2.size (fun k hk => (ho2.wb_lt k hk).1)
        go_roundg (n - (i + 1))
        case measure => have := HG.out; omega
        case rel => exact ⟨i + 1, w', _, _, by omega, rfl, by go_num, rfl, rfl, HB1, HO1, hown', hx3⟩
    · have e : l.take i = l := List.take_of_length_le (by have := N.out; omega)
      have HB1 : Hid (b = bytesR l) := Lib.hid (by rw [HB.out, e])
      have HO1 : Hid (okR l = true) := Lib.hid (by rw [← HO.out, e])
      clear e HB HO
      go_wp2_with (fail)
      refine bodyPost_ret (v := .tuple #[bs, .int .i64 0]) (by simp [results, Tryd.results9, go_sem]) rfl ?_
      exact ⟨bs, by rw [if_pos HO1.out], by rw [if_pos HO1.out, ← HB1.out]; exact hown, hx⟩
end Go.Proofs.YteaglmdlghdohaaDoor
