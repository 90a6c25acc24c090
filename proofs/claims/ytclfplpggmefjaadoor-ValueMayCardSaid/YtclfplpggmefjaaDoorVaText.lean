/- The walk of value.Text; the conversion of a string to bytes. -/
import Derived.Test.YtclfplpggmefjaaDoorVaFloat
namespace Go.Proofs.YtclfplpggmefjaaDoor
open Go.RowKit
set_option linter.unusedVariables false
set_option linter.unusedSimpArgs false

/-- a string's bytes -/
def strI (s : ByteArray) : List Int := intB s.data.toList
theorem strI_len (s : ByteArray) : (strI s).length = s.size := by rw [strI, intB_len, Array.length_toList]; rfl
def textOk (s : ByteArray) : Bool := (readR (strI s)).isSome
theorem conv_bytes (s : ByteArray) (W : World) : (convert 9 84 (.string s)).run Tryd.prog W = .ok (.slice (some ⟨W.heap.size, 0, none⟩) s.size (grownCap W s.size 0 5)) (Lib.bytesWorld W 5 s) :=
  Lib.run_convert_string_bytes W _ _ _ s Tryd.strT Tryd.slU8 Tryd.uU8
theorem bytes_below (s : ByteArray) (W : World) : Below W.heap.size W (Lib.bytesWorld W 5 s) := by
  refine ⟨?_, ?_, ?_, by rw [Lib.bytesWorld_size]; omega, fun k hk => Lib.bytesWorld_at_old W _ s k hk⟩ <;> (unfold Lib.bytesWorld World.freeze; split <;> rfl)
theorem bytes_rd (s : ByteArray) (W : World) : RdU8 (Lib.bytesWorld W 5 s) (Lib.bytesWorld W 5 s).heap.size (some ⟨W.heap.size, 0, none⟩) (strI s) := by
  refine rd_intB.2 fun hl => ⟨_, rfl, by rw [Lib.bytesWorld_size]; exact Nat.lt_succ_self _, fun i hi j u hu => ?_⟩
  have hj : j = 0 ∧ u = .int .u8 (s.data.toList[i].toNat : Int) := by
    cases j with
    | zero => simp [encB] at hu; exact ⟨rfl, hu.symm⟩
    | succ j => simp [encB] at hu
  obtain ⟨rfl, rfl⟩ := hj
  have hs : i < s.size := by have h := hi; rw [Array.length_toList] at h; exact h
  have := Lib.bytesWorld_cell W 5 s i hs
  rw [add_zero', Nat.mul_one]
  rw [show (⟨W.heap.size, 0, none⟩ : Addr).add i = ⟨W.heap.size, i, none⟩ from by unfold Addr.add; split <;> simp_all]
  rw [this]
  rw [List.getD, List.getElem?_eq_getElem hi]
  rfl

/-- what a text's value answers -/
def TextOut (s : ByteArray) (w : World) (e : Ending) (w' : World) : Prop :=
  e = .returned (.tuple #[if s.size ≤ 64 ∧ textOk s = true then .agg #[.int .u8 4, .int .i64 0, .int .u64 0, .string s] else .agg #[.int .u8 0, .int .i64 0, .int .u64 0, .string ⟨#[]⟩], .int .i64 (if s.size ≤ 64 ∧ textOk s = true then 0 else 3)]) ∧ Below w.heap.size w w'

set_option maxHeartbeats 1600000 in
theorem text_any (s : ByteArray) (w : World) (hT : Lib.Utf8Tabs 1 2 w) :
    Calls Tryd.prog 11 #[.string s] w (TextOut s w) := by
  by_cases h64 : 64 < s.size
  · have hz : (64 : Int) < (s.size : Int) := by omega
    have HN := Lib.hid (show ¬ (s.size ≤ 64 ∧ textOk s = true) by omega)
    go_enter Tryd.func11, Tryd.ntmps11
    go_wp2_with (fail)
    refine bodyPost_ret (v := .tuple #[.agg #[.int .u8 0, .int .i64 0, .int .u64 0, .string ⟨#[]⟩], .int .i64 3]) (by simp [results, Tryd.results11, go_sem]) rfl ?_
    exact ⟨by rw [if_neg HN.out, if_neg HN.out], ext_alloc w _⟩
  · have hz : ¬ ((64 : Int) < (s.size : Int)) := by omega
    have hcv := conv_bytes s
    go_enter Tryd.func11, Tryd.ntmps11
    go_wp2_with (go_at_call 48; refine Hid.out ?_)
    clear hcv
    refine Lib.hid ?_
    obtain ⟨w1, hw1⟩ : ∃ X : World, X = w.alloc (.cells #[.int .u8 0, .int .i64 0, .int .u64 0, .string ⟨#[]⟩] 24) := ⟨_, rfl⟩
    have y1 : Below w.heap.size w w1 := by rw [hw1]; exact ext_alloc w _
    have hbox : w1.heap[w.heap.size]? = some (.cells #[.int .u8 0, .int .i64 0, .int .u64 0, .string ⟨#[]⟩] 24 (0, 0)) := by rw [hw1]; exact heap_alloc_new w _
    have hsz : w1.heap.size = w.heap.size + 1 := by rw [hw1, World.size_alloc]
    rw [← hw1]
    clear hw1
    have y2 := bytes_below s w1
    have r2 := bytes_rd s w1
    rw [hsz] at r2
    have hcap := grownCap_ge w1 s.size 0 5
    generalize grownCap w1 s.size 0 5 = c at *
    have hbox2 := (y2.block w.heap.size (by omega)).trans hbox
    have x2 := ext_trans y1 y2
    have hsz2 : w.heap.size < (Lib.bytesWorld w1 5 s).heap.size := by rw [Lib.bytesWorld_size]; omega
    generalize Lib.bytesWorld w1 5 s = w2 at *
    refine (read_any (some ⟨w.heap.size + 1, 0, none⟩) s.size c (strI s) w2 (strI_len s).symm hcap r2 (by omega) (intB_mem _) (Utf8Tabs_below hT x2)).mono ?_
    rintro e w3 ⟨v, rfl, _, y3⟩
    have hbox3 := (y3.block w.heap.size hsz2).trans hbox2
    have x3 := ext_trans x2 y3
    obtain ⟨b0, b1, b2, b3⟩ := box_v hbox3
    have hfr := box_free hbox3
    have hsz3 : w.heap.size < w3.heap.size := by have := y3.size; omega
    clear hbox hbox2 hbox3 r2 y1 y2 y3 x2 hcap hsz hsz2
    obtain ⟨E, hE⟩ : ∃ X : Int, (if (readR (strI s)).isSome = true then (0 : Int) else 3) = X := ⟨_, rfl⟩
    rw [hE]
    cases hok : (readR (strI s)).isSome with
    | true =>
      have h0 : E = 0 := by rw [← hE, if_pos hok]
      subst h0
      have HN := Lib.hid (show s.size ≤ 64 ∧ textOk s = true from ⟨by omega, hok⟩)
      clear hE hok
      have hf0 := hfr 0
      have hf1 := hfr 1
      have hf2 := hfr 2
      have hf3 := hfr 3
      clear hfr
      go_wp2_with (fail)
      refine bodyPost_ret (v := .tuple #[.agg #[.int .u8 4, .int .i64 0, .int .u64 0, .string s], .int .i64 0]) (by simp [results, Tryd.results11, go_sem, b0, b1, b2, b3]) rfl ?_
      exact ⟨by rw [if_pos HN.out, if_pos HN.out], ((((x3.setCell (by simp) _).setCell (by simp) _).setCell (by simp) _).setCell (by simp) _)⟩
    | false =>
      have h0 : E = 3 := by rw [← hE, if_neg (by rw [hok]; simp)]
      subst h0
      have HN := Lib.hid (show ¬ (s.size ≤ 64 ∧ textOk s = true) from fun h => by have := h.2; unfold textOk at this; rw [hok] at this; cases this)
      clear hE hok
      have hf0 := hfr 0
      have hf1 := hfr 1
      have hf2 := hfr 2
      have hf3 := hfr 3
      clear hfr
      go_wp2_with (fail)
      refine bodyPost_ret (v := .tuple #[.agg #[.int .u8 0, .int .i64 0, .int .u64 0, .string ⟨#[]⟩], .int .i64 3]) (by simp [results, Tryd.results11, go_sem, b0, b1, b2, b3]) rfl ?_
      exact ⟨by rw [if_neg HN.out, if_neg HN.out], ((((x3.setCell (by simp) _).setCell (by simp) _).setCell (by simp) _).setCell (by simp) _)⟩
end Go.Proofs.YtclfplpggmefjaaDoor
