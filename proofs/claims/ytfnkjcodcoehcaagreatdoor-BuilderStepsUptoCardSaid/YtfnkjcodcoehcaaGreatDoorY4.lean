/- Merged texts: RuRead0, RuReadRef, RuRead, VaFloat, VaText, VaMay, OkV, At, Schema1. -/
import Derived.Lib.OthersKept
import Derived.Laws.BytesString
import Derived.Laws.BytesArg
import Derived.Test.YtfnkjcodcoehcaaGreatDoorY2
import Derived.Test.YtfnkjcodcoehcaaGreatDoorY3
import Derived.Lib.ConvBytes
import Derived.Deep.RegionHeld3
import Derived.Test.YtfnkjcodcoehcaaGreatDoorY1
namespace Go.Proofs.YtfnkjcodcoehcaaGreatDoor
open Go.RowKit
set_option linter.unusedVariables false
set_option linter.unusedSimpArgs false

def intB (t : List UInt8) : List Int := t.map fun u => (u.toNat : Int)
theorem intB_len (t : List UInt8) : (intB t).length = t.length := by simp [intB]
theorem intB_mem (t : List UInt8) : ∀ x ∈ intB t, 0 ≤ x ∧ x ≤ 255 := by
  intro x hx
  obtain ⟨u, _, rfl⟩ := List.mem_map.1 hx
  have := u.toNat_lt
  omega
theorem intB_of {b : List Int} (hu : ∀ x ∈ b, 0 ≤ x ∧ x ≤ 255) : ∃ t, b = intB t := by
  refine ⟨b.map fun x => UInt8.ofNat x.toNat, ?_⟩
  unfold intB
  rw [List.map_map]
  symm
  rw [List.map_congr_left (g := id), List.map_id]
  intro x hx
  have := hu x hx
  show ((UInt8.ofNat x.toNat).toNat : Int) = x
  rw [UInt8.toNat_ofNat']
  omega
theorem rd_intB {w : World} {B : Nat} {A : Option Addr} {t : List UInt8} : RdU8 w B A (intB t) ↔ RdB w B A t := by
  constructor
  · intro h hl
    obtain ⟨ad, e, hb, hc⟩ := h (by rw [intB_len]; exact hl)
    refine ⟨ad, e, hb, fun i hi => ?_⟩
    have := hc i (by rw [intB_len]; exact hi)
    simpa [intB, encU8, encB] using this
  · intro h hl
    rw [intB_len] at hl
    obtain ⟨ad, e, hb, hc⟩ := h hl
    refine ⟨ad, e, hb, fun i hi => ?_⟩
    have := hc i (by rw [intB_len] at hi; exact hi)
    simpa [intB, encU8, encB] using this

theorem Tryz.strT : Tryz.prog.underlying 9 = some .string := by kernel_rfl
theorem Tryz.uU8 : Tryz.prog.underlying 5 = some (.int .u8) := by kernel_rfl
theorem conv_str {w : World} {B : Nat} {A : Option Addr} {t : List UInt8} {n c : Nat} (hn : n = t.length) (h : RdB w B A t) :
    (convert 232 9 (.slice A n c)).run Tryz.prog w = .ok (.string ⟨t.toArray⟩) w := by
  subst hn
  rw [run_convert_bytes_string w _ _ _ A t.length c Tryz.slU8 Tryz.uU8 Tryz.strT]
  cases A with
  | none =>
    rcases Nat.eq_zero_or_pos t.length with h0 | h0
    · obtain rfl := List.eq_nil_of_length_eq_zero h0
      simp [Conv.bytesToString]
      rfl
    · obtain ⟨ad, e, _⟩ := h h0
      cases e
  | some ad =>
    have hl : (loadCells ad t.length).run Tryz.prog w = .ok ((intB t).map (Value.int .u8)).toArray w := by
      have := run_loadCells_list (P := Tryz.prog) w ad ((intB t).map (Value.int .u8)) (fun j v hj => by
        have hj2 : ∃ hlt : j < t.length, v = .int .u8 (t[j].toNat : Int) := by
          obtain ⟨hlt, he⟩ := List.getElem?_eq_some_iff.1 hj
          simp [intB] at hlt
          exact ⟨hlt, by rw [← he]; simp [intB]⟩
        obtain ⟨hlt, rfl⟩ := hj2
        obtain ⟨ad', e, _, hc⟩ := h (by omega)
        injection e with e
        subst e
        have := hc j hlt 0 _ rfl
        rwa [add_zero', Nat.mul_one] at this)
      simpa [intB_len] using this
    rw [run_bytesToString w _ _ c (intB t) hl, foldl_push_bytes]
    have hm : (intB t).map (fun n => UInt8.ofNat n.toNat) = t := by
      unfold intB
      rw [List.map_map, List.map_congr_left (g := id), List.map_id]
      intro x _
      simp
    rw [hm]
    simp [ByteArray.empty, ByteArray.emptyWithCapacity]
    rfl

theorem decN_cases (n b0 b1 b2 b3 : Nat) (h0 : b0 < 256) (h1 : b1 < 256) (h2 : b2 < 256) (h3 : b3 < 256) :
    Lib.decodeN n b0 b1 b2 b3 = (65533, 1) ∨ (b0 < 128 ∧ Lib.decodeN n b0 b1 b2 b3 = (b0, 1)) ∨
    (∃ r, 128 ≤ r ∧ r < 2048 ∧ 1 < n ∧ Lib.decodeN n b0 b1 b2 b3 = (r, 2) ∧ b0 = 192 + r / 64 ∧ b1 = 128 + r % 64) ∨
    (∃ r, 2048 ≤ r ∧ r < 65536 ∧ (r < 55296 ∨ 57344 ≤ r) ∧ 2 < n ∧ Lib.decodeN n b0 b1 b2 b3 = (r, 3) ∧ b0 = 224 + r / 4096 ∧ b1 = 128 + r / 64 % 64 ∧ b2 = 128 + r % 64) ∨
    (∃ r, 65536 ≤ r ∧ r ≤ 1114111 ∧ 3 < n ∧ Lib.decodeN n b0 b1 b2 b3 = (r, 4) ∧ b0 = 240 + r / 262144 ∧ b1 = 128 + r / 4096 % 64 ∧ b2 = 128 + r / 64 % 64 ∧ b3 = 128 + r % 64) := by
  unfold Lib.decodeN
  split
  · rename_i c; exact .inr (.inl ⟨c, rfl⟩)
  · split
    · rename_i c1 c2
      split
      · rename_i c3
        exact .inr (.inr (.inl ⟨_, by omega, by omega, by omega, rfl, by omega, by omega⟩))
      · exact .inl rfl
    · split
      · rename_i c1 c2 c3
        split
        · rename_i c4
          exact .inr (.inr (.inr (.inl ⟨_, by omega, by omega, by omega, by omega, rfl, by omega, by omega, by omega⟩)))
        · exact .inl rfl
      · split
        · rename_i c1 c2 c3 c4
          split
          · rename_i c5
            exact .inr (.inr (.inr (.inr ⟨_, by omega, by omega, by omega, rfl, by omega, by omega, by omega, by omega⟩)))
          · exact .inl rfl
        · exact .inl rfl
theorem intB_cons (u : UInt8) (t : List UInt8) : intB (u :: t) = (u.toNat : Int) :: intB t := rfl
theorem dec_inv {t : List UInt8} (hne : t ≠ []) : Lib.decodeL t = (65533, 1) ∨ ∃ r : Nat, Lib.decodeL t = (r, (encR r).length) ∧ mayR r = true ∧ ∃ rest, intB t = encR r ++ rest := by
  rw [Lib.decodeL_N]
  have e : ∀ i, (t.getD i 0).toNat < 256 := fun i => (t.getD i 0).toNat_lt
  have hl : 0 < t.length := List.length_pos_iff.2 hne
  have g : ∀ i, i < t.length → (t.getD i 0).toNat = (t[i]?.getD 0).toNat := fun i _ => by simp [List.getD]
  rcases decN_cases t.length _ _ _ _ (e 0) (e 1) (e 2) (e 3) with h | ⟨h1, h2⟩ | ⟨r, h1, h2, h3, h4, h5, h6⟩ | ⟨r, h1, h2, h3, h4, h5, h6, h7, h8⟩ | ⟨r, h1, h2, h3, h4, h5, h6, h7, h8⟩
  · exact .inl h
  · refine .inr ⟨(t.getD 0 0).toNat, ?_, ?_, ?_⟩
    · rw [h2, encR_n, if_pos (by omega)]
    · exact decide_eq_true (by omega)
    · match t, hl with
      | a :: t', _ =>
        refine ⟨intB t', ?_⟩
        simp only [List.getD_cons_zero] at h1 ⊢
        rw [encR_1 (by omega)]
        rfl
  · refine .inr ⟨r, ?_, ?_, ?_⟩
    · rw [h4, encR_n, if_neg (by omega), if_pos (by omega)]
    · exact decide_eq_true (by omega)
    · match t, h3 with
      | a :: b :: t', _ =>
        refine ⟨intB t', ?_⟩
        simp only [List.getD_cons_zero, List.getD_cons_succ] at h5 h6
        rw [encR_2 (by omega) (by omega), intB_cons, intB_cons]
        simp only [List.cons_append, List.nil_append, List.cons.injEq, and_true]
        omega
  · refine .inr ⟨r, ?_, ?_, ?_⟩
    · rw [h5, encR_n, if_neg (by omega), if_neg (by omega), if_pos (by omega)]
    · exact decide_eq_true (by omega)
    · match t, h4 with
      | a :: b :: c :: t', _ =>
        refine ⟨intB t', ?_⟩
        simp only [List.getD_cons_zero, List.getD_cons_succ] at h6 h7 h8
        rw [encR_3 (by omega) (by omega), intB_cons, intB_cons, intB_cons]
        simp only [List.cons_append, List.nil_append, List.cons.injEq, and_true]
        omega
  · refine .inr ⟨r, ?_, ?_, ?_⟩
    · rw [h4, encR_n, if_neg (by omega), if_neg (by omega), if_neg (by omega)]
    · exact decide_eq_true (by omega)
    · match t, h3 with
      | a :: b :: c :: d :: t', _ =>
        refine ⟨intB t', ?_⟩
        simp only [List.getD_cons_zero, List.getD_cons_succ] at h5 h6 h7 h8
        rw [encR_4 (by omega), intB_cons, intB_cons, intB_cons, intB_cons]
        simp only [List.cons_append, List.nil_append, List.cons.injEq, and_true]
        omega
theorem decN_1 {r n b1 b2 b3 : Nat} (h : r < 128) : Lib.decodeN n r b1 b2 b3 = (r, 1) := by unfold Lib.decodeN; rw [if_pos h]
theorem decN_2 {r n b2 b3 : Nat} (h : 128 ≤ r) (h2 : r < 2048) (hn : 1 < n) : Lib.decodeN n (192 + r / 64) (128 + r % 64) b2 b3 = (r, 2) := by
  unfold Lib.decodeN
  rw [if_neg (by omega), if_pos ⟨by omega, hn, by omega⟩, if_pos (by omega)]
  congr 1; omega
theorem decN_3 {r n b3 : Nat} (h : 2048 ≤ r) (h2 : r < 65536) (hv : r < 55296 ∨ 57344 ≤ r) (hn : 2 < n) : Lib.decodeN n (224 + r / 4096) (128 + r / 64 % 64) (128 + r % 64) b3 = (r, 3) := by
  unfold Lib.decodeN
  rw [if_neg (by omega), if_neg (by omega), if_pos ⟨by omega, ⟨by omega, by omega⟩, by omega, by omega⟩, if_pos (by omega)]
  congr 1; omega
theorem decN_4 {r n : Nat} (h : 65536 ≤ r) (h2 : r ≤ 1114111) (hn : 3 < n) : Lib.decodeN n (240 + r / 262144) (128 + r / 4096 % 64) (128 + r / 64 % 64) (128 + r % 64) = (r, 4) := by
  unfold Lib.decodeN
  rw [if_neg (by omega), if_neg (by omega), if_neg (by omega), if_pos ⟨by omega, ⟨by omega, by omega⟩, ⟨by omega, by omega⟩, by omega, by omega⟩, if_pos (by omega)]
  congr 1; omega
theorem dec_enc {t : List UInt8} {r : Int} {rest : List Int} (h : mayR r = true) (ht : intB t = encR r ++ rest) : ∃ m : Nat, r = m ∧ Lib.decodeL t = (m, (encR r).length) := by
  have hb := mayR_le h
  have hv := of_decide_eq_true h
  obtain ⟨m, rfl⟩ : ∃ m : Nat, r = m := ⟨r.toNat, by omega⟩
  refine ⟨m, rfl, ?_⟩
  have hlen := congrArg List.length ht
  rw [intB_len, List.length_append] at hlen
  rw [Lib.decodeL_N, encR_n]
  rw [encR_n] at hlen
  by_cases h1 : (m : Int) < 128
  · rw [if_pos h1] at hlen ⊢
    match t, hlen with
    | [], hl => rw [List.length_nil] at hl; omega
    | a :: t', _ =>
      rw [encR_1 h1, intB_cons] at ht
      have e1 := (List.cons.inj ht).1
      simp only [List.getD_cons_zero]
      rw [show a.toNat = m by omega, decN_1 (by omega)]
  · rw [if_neg h1] at hlen ⊢
    by_cases h2 : (m : Int) < 2048
    · rw [if_pos h2] at hlen ⊢
      match t, hlen with
      | [], hl => simp only [List.length_cons, List.length_nil] at hl; omega
      | [a], hl => simp only [List.length_cons, List.length_nil] at hl; omega
      | a :: b :: t', _ =>
        rw [encR_2 h1 h2, intB_cons, intB_cons] at ht
        have e1 := (List.cons.inj ht).1
        have e2 := (List.cons.inj (List.cons.inj ht).2).1
        simp only [List.getD_cons_zero, List.getD_cons_succ]
        rw [show a.toNat = 192 + m / 64 by omega, show b.toNat = 128 + m % 64 by omega, decN_2 (by omega) (by omega) (by simp)]
    · rw [if_neg h2] at hlen ⊢
      by_cases h3 : (m : Int) < 65536
      · rw [if_pos h3] at hlen ⊢
        match t, hlen with
        | [], hl => simp only [List.length_cons, List.length_nil] at hl; omega
        | [a], hl => simp only [List.length_cons, List.length_nil] at hl; omega
        | [a, b], hl => simp only [List.length_cons, List.length_nil] at hl; omega
        | a :: b :: c :: t', _ =>
          rw [encR_3 h2 h3, intB_cons, intB_cons, intB_cons] at ht
          have e1 := (List.cons.inj ht).1
          have e2 := (List.cons.inj (List.cons.inj ht).2).1
          have e3 := (List.cons.inj (List.cons.inj (List.cons.inj ht).2).2).1
          simp only [List.getD_cons_zero, List.getD_cons_succ]
          rw [show a.toNat = 224 + m / 4096 by omega, show b.toNat = 128 + m / 64 % 64 by omega, show c.toNat = 128 + m % 64 by omega, decN_3 (by omega) (by omega) (by omega) (by simp)]
      · rw [if_neg h3] at hlen ⊢
        match t, hlen with
        | [], hl => simp only [List.length_cons, List.length_nil] at hl; omega
        | [a], hl => simp only [List.length_cons, List.length_nil] at hl; omega
        | [a, b], hl => simp only [List.length_cons, List.length_nil] at hl; omega
        | [a, b, c], hl => simp only [List.length_cons, List.length_nil] at hl; omega
        | a :: b :: c :: d :: t', _ =>
          rw [encR_4 h3, intB_cons, intB_cons, intB_cons, intB_cons] at ht
          have e1 := (List.cons.inj ht).1
          have e2 := (List.cons.inj (List.cons.inj ht).2).1
          have e3 := (List.cons.inj (List.cons.inj (List.cons.inj ht).2).2).1
          have e4 := (List.cons.inj (List.cons.inj (List.cons.inj (List.cons.inj ht).2).2).2).1
          simp only [List.getD_cons_zero, List.getD_cons_succ]
          rw [show a.toNat = 240 + m / 262144 by omega, show b.toNat = 128 + m / 4096 % 64 by omega, show c.toNat = 128 + m / 64 % 64 by omega, show d.toNat = 128 + m % 64 by omega, decN_4 (by omega) (by omega) (by simp)]

theorem head_zero {n : Nat} {r : Int} {b : List Int} (hn : 0 < n) (h : (headR n r b).2 = 0) : headR n r b = (0, 0) := by
  unfold headR at h ⊢
  split
  · rfl
  · rename_i hl
    rw [if_neg hl] at h
    split at h
    · rfl
    · rename_i r' hc
      split at h
      · exact absurd h (by simp only; omega)
      · rename_i hh; exact if_neg hh
theorem next_zero {b : List Int} (h : (nextR b).2 = 0) : nextR b = (0, 0) := by
  unfold nextR at h ⊢
  simp only at h ⊢
  by_cases c1 : 240 ≤ b.headD 0
  · rw [if_pos c1] at h ⊢; exact head_zero (by omega) h
  · rw [if_neg c1] at h ⊢
    by_cases c2 : 224 ≤ b.headD 0
    · rw [if_pos c2] at h ⊢; exact head_zero (by omega) h
    · rw [if_neg c2] at h ⊢
      by_cases c3 : 192 ≤ b.headD 0
      · rw [if_pos c3] at h ⊢; exact head_zero (by omega) h
      · rw [if_neg c3] at h ⊢
        by_cases c4 : 128 ≤ b.headD 0
        · rw [if_pos c4]
        · rw [if_neg c4] at h ⊢; exact head_zero (by omega) h
theorem next_dec {t : List UInt8} (hne : t ≠ []) : nextR (intB t) = if (Lib.decodeL t).1 = 65533 ∧ (Lib.decodeL t).2 = 1 then (0, 0) else (((Lib.decodeL t).1 : Int), (Lib.decodeL t).2) := by
  by_cases hz : (nextR (intB t)).2 = 0
  · rcases dec_inv hne with h | ⟨r, h1, h2, rest, h3⟩
    · rw [h, if_pos ⟨rfl, rfl⟩]
      exact next_zero hz
    · rw [h3, next_enc h2] at hz
      have := (encR_len (r : Int)).1
      exact absurd hz (by simp only; omega)
  · obtain ⟨h1, h2, h3⟩ := next_inv (intB_mem t) (r := (nextR (intB t)).1) (n := (nextR (intB t)).2) rfl hz
    obtain ⟨m, hm, hd⟩ := dec_enc h1 h3
    rw [hd]
    have hc : ¬ (m = 65533 ∧ (encR (nextR (intB t)).1).length = 1) := by
      rintro ⟨rfl, hl⟩
      rw [hm] at hl
      simp [encR] at hl
    rw [if_neg hc, ← hm, ← h2]
theorem readR_dec {t : List UInt8} (hne : t ≠ []) : readR (intB t) = if (Lib.decodeL t).1 = 65533 ∧ (Lib.decodeL t).2 = 1 then none else (readR (intB (t.drop (Lib.decodeL t).2))).map (((Lib.decodeL t).1 : Int) :: ·) := by
  have hni : intB t ≠ [] := fun h => hne (by have := congrArg List.length h; rw [intB_len] at this; exact List.eq_nil_of_length_eq_zero this)
  rw [readR_step hni, next_dec hne]
  by_cases hc : (Lib.decodeL t).1 = 65533 ∧ (Lib.decodeL t).2 = 1
  · rw [if_pos hc, if_pos hc, if_pos rfl]
  · have hw := Lib.decodeL_width t
    rw [if_neg hc, if_neg hc, if_neg (by simp only; omega)]
    simp only [intB, List.map_drop]
theorem valid_read : ∀ (n : Nat) (t : List UInt8), t.length ≤ n → Lib.validD t = (readR (intB t)).isSome
  | n, [], _ => by rw [Lib.validD_nil]; rfl
  | 0, a :: t, h => absurd h (by simp)
  | n + 1, a :: t, h => by
    rw [Lib.validD_step _ (by simp), readR_dec (by simp)]
    by_cases hc : (Lib.decodeL (a :: t)).1 = 65533 ∧ (Lib.decodeL (a :: t)).2 = 1
    · rw [if_pos hc, if_pos hc]; rfl
    · have hw := Lib.decodeL_width (a :: t)
      rw [if_neg hc, if_neg hc, valid_read n _ (by rw [List.length_drop]; simp only [List.length_cons] at *; omega)]
      cases readR (intB ((a :: t).drop (Lib.decodeL (a :: t)).2)) <;> rfl

def ReadOut (o : Option (List Int)) (w : World) (e : Ending) (w' : World) : Prop :=
  ∃ v, e = .returned (.tuple #[v, .int .i64 (if o.isSome = true then 0 else 3)]) ∧ OwI32 w' w.heap.size v (o.getD []) ∧ Below w.heap.size w w'

theorem dec_at (t : List UInt8) (pos : Nat) : Utf8.decode ⟨t.toArray⟩ pos = Lib.decodeL (t.drop pos) := by
  rw [Lib.decode_N, Lib.decodeL_N]
  simp [List.getD, List.getElem?_drop]
theorem str_size (t : List UInt8) : (ByteArray.mk t.toArray).size = t.length := by simp [ByteArray.size]
theorem below_iter {B k : Nat} {a w : World} (h : Below B a w) (hk : B ≤ k) (s : ByteArray) (pos : Nat) : Below B a (w.iterAt k s pos) := Lib.below_iterAt h hk s pos
theorem Ow.iterAt {α : Type} {enc : α → List Value} {size : Nat} {e : TypeId} {w : World} {base : Nat} {v : Value} {l : List α} (h : Ow enc size e w base v l) {k : Nat} (hk : wb v ≠ some k) (s : ByteArray) (pos : Nat) : Ow enc size e (w.iterAt k s pos) base v l :=
  h.keep fun j hj => Lib.iterAt_other w k j s pos (fun e => hk (by rw [hj, e]))

set_option maxHeartbeats 1600000 in
theorem read_any (A : Option Addr) (n c : Nat) (b : List Int) (w : World) (hn : n = b.length) (hc : n ≤ c) (h : RdU8 w w.heap.size A b) (hb : n ≤ 100000000) (hu : ∀ x ∈ b, 0 ≤ x ∧ x ≤ 255)
    (hT : Lib.Utf8Tabs 1 2 w) :
    Calls Tryz.prog 235 #[.slice A n c] w (ReadOut (readR b) w) := by
  obtain ⟨t, rfl⟩ := intB_of hu
  rw [intB_len] at hn
  have hB := rd_intB.1 h
  have hV := valid_read t.length t (Nat.le_refl _)
  generalize hO : readR (intB t) = o at hV ⊢
  have HO := Lib.hid hO
  have N := Lib.hid hn
  clear hn hO hu h
  cases o with
  | none =>
    go_enter Tryz.func235, Tryz.ntmps235
    go_wp2_with (go_at_call 242; refine Hid.out ?_)
    refine Lib.hid ?_
    refine (validB_any A n c t w N.out hc (by omega) hB hT).mono ?_
    rw [hV]
    rintro e w1 ⟨rfl, y⟩
    clear hV
    go_wp2_with (fail)
    refine bodyPost_ret (v := .tuple #[.slice none 0 0, .int .i64 3]) (by simp [results, Tryz.results235, go_sem]) rfl ?_
    exact ⟨.slice none 0 0, rfl, Ow.nil _ _, y⟩
  | some L =>
    go_enter Tryz.func235, Tryz.ntmps235
    go_wp2_with (go_at_call 242; refine Hid.out ?_)
    refine Lib.hid ?_
    refine (validB_any A n c t w N.out hc (by omega) hB hT).mono ?_
    rw [hV]
    rintro e w1 ⟨rfl, y⟩
    clear hV hT
    have hcv : (convert 232 9 (.slice A n c)).run Tryz.prog w1 = .ok (.string ⟨t.toArray⟩) w1 := conv_str N.out (hB.below y (Nat.le_refl _))
    have hsz := str_size t
    generalize hs : ByteArray.mk t.toArray = s at hcv hsz
    have HS := Lib.hid hs
    rw [← N.out] at hsz
    have HZ := Lib.hid hsz
    clear hs hsz
    go_wp2_with (fail)
    obtain ⟨k, hk⟩ : ∃ k, k = w1.heap.size := ⟨_, rfl⟩
    have hk0 : w.heap.size ≤ k := by rw [hk]; exact y.size
    rw [← hk]
    have HK := Lib.hid hk
    clear hcv hk
    go_loopg [4] n (fun g lv wr => ∃ (pos : Nat) (w2 : World) (l : List Int) (v : Value), pos ≤ n ∧ g = n - pos ∧ w2 = wr ∧ v = lv ∧ Hid (w2.heap[k]? = some (.stringIter s pos)) ∧ Hid ((readR (intB (t.drop pos))).map (l ++ ·) = some L) ∧ OwI32 w2 w.heap.size v l ∧ Hid (wb v ≠ some k) ∧ Below w.heap.size w w2 ∧ l.length ≤ pos)
    case atStart =>
      refine ⟨0, _, [], _, by omega, rfl, rfl, rfl, Lib.hid ?_, Lib.hid (by rw [List.drop_zero, HO.out]; rfl), Ow.nil _ _, Lib.hid (by simp [wb]), ?_, by simp⟩
      · rw [HK.out]; exact World.iter_heap w1 s 0
      · exact y.alloc y.size _
    case round =>
      obtain ⟨pos, w2, l, v, hp, hg, rfl, rfl, HI, HR, hown, HW, hx, hlp⟩ := hrel
      have HG := Lib.hid hg
      clear hg
      by_cases hlt : pos < n
      · have hne : t.drop pos ≠ [] := fun e => by
          have := congrArg List.length e
          rw [List.length_drop, List.length_nil] at this
          have := N.out
          omega
        have hnx : ∀ ty, (Instr.next (.pointer (some ⟨k, 0, none⟩)) true ty).run Tryz.prog w2 = _ := fun ty => Lib.run_next_any_at w2 k s pos ty HI.out (by rw [HZ.out]; exact hlt)
        have hd : Utf8.decode s pos = Lib.decodeL (t.drop pos) := by rw [← HS.out]; exact dec_at t pos
        have t1 := HR.out
        rw [readR_dec hne, List.drop_drop] at t1
        have hw := Lib.decodeL_width (t.drop pos)
        have hr1 := Lib.decodeL_rune (t.drop pos)
        obtain ⟨m, hm⟩ : ∃ X, (Lib.decodeL (t.drop pos)).1 = X := ⟨_, rfl⟩
        obtain ⟨q, hq⟩ : ∃ X, (Lib.decodeL (t.drop pos)).2 = X := ⟨_, rfl⟩
        have hnc : ¬ (m = 65533 ∧ q = 1) := fun hc => by
          rw [hm, hq, if_pos hc] at t1
          cases t1
        have hnx2 : nextR (intB (t.drop pos)) = ((m : Int), q) := by rw [next_dec hne, hm, hq, if_neg hnc]
        have hqn : pos + q ≤ n := by
          have t2 := (next_inv (intB_mem _) hnx2 (by omega)).2
          have t3 := congrArg List.length t2.2
          rw [List.length_append, ← t2.1, intB_len, List.length_drop] at t3
          have := N.out
          omega
        rw [hm, hq, if_neg hnc] at t1
        rw [hd, hm, hq] at hnx
        have HR2 : Hid ((readR (intB (t.drop (pos + q)))).map ((l ++ [(m : Int)]) ++ ·) = some L) := Lib.hid (by
          rw [Option.map_map] at t1
          rw [← t1]
          congr 1
          funext z
          simp)
        rw [hm] at hr1
        rw [hq] at hw
        clear t1 hnx2 hnc hd hm hq HR hne
        have hkz : k < w2.heap.size := (Array.getElem?_eq_some_iff.1 HI.out).1
        have ho2 := hown.iterAt HW.out s (pos + q)
        have hx2 := below_iter hx hk0 s (pos + q)
        have hit : Hid ((w2.iterAt k s (pos + q)).heap[k]? = some (.stringIter s (pos + q))) := Lib.hid (Lib.iterAt_heap w2 k s pos (pos + q) HI.out)
        have hz3 : w2.heap.size = (w2.iterAt k s (pos + q)).heap.size := (Lib.iterAt_size w2 k s (pos + q)).symm
        generalize hw3 : w2.iterAt k s (pos + q) = w3 at ho2 hx2 hit hz3 hnx
        rw [hz3] at hkz
        clear hw3 hz3
        go_wp2_with (at_builtin; refine app_i32 (m := [(m : Int)]) rfl (.tmp 16) (.tmp 18) rfl rfl (ho2.alloc _) _ _ _ _ rfl rfl (Rd.new (enc := encI32) (size := 1) (fun _ => rfl) w3 21 [(m : Int)] (cs := #[.int .i32 (m : Int)]) rfl rfl) (by simp only [List.length_cons, List.length_nil]; omega) (by rw [World.size_alloc]; have := hx2.size; omega) ?_; intro v' w' hown' hgr hv')
        have hx3 : Below w.heap.size w w' := (ext_trans hx2 (ext_alloc w3 _)).grown hgr (by rw [World.size_alloc]; have := hx2.size; omega) (fun k hk => (ho2.wb_lt k hk).1)
        have HI3 : Hid (w'.heap[k]? = some (.stringIter s (pos + q))) := Lib.hid (by
          rw [hgr.block k (by rw [World.size_alloc]; omega) (fun e => HW.out e.symm), Below.heap_alloc w3 _ k hkz]
          exact hit.out)
        have HW3 : Hid (wb v' ≠ some k) := Lib.hid (by
          rcases hv' with ⟨rfl, _⟩ | e | e
          · exact HW.out
          · rw [e]; exact HW.out
          · rw [e, World.size_alloc]; intro e2; injection e2 with e2; omega)
        clear hnx
        go_roundg (n - (pos + q))
        case measure => have := HG.out; omega
        case rel => exact ⟨pos + q, w', _, _, by omega, rfl, rfl, rfl, HI3, HR2, hown', HW3, hx3, by simp; omega⟩
      · have hnx : ∀ ty, (Instr.next (.pointer (some ⟨k, 0, none⟩)) true ty).run Tryz.prog w2 = _ := fun ty => Lib.run_next_end_at w2 k s pos ty HI.out (by rw [HZ.out]; exact hlt)
        have hE : l = L := by
          have t1 := HR.out
          rw [List.drop_eq_nil_of_le (by have := N.out; omega)] at t1
          injection t1 with t1
          simpa using t1
        have HE := Lib.hid hE
        clear hE
        go_wp2_with (fail)
        refine bodyPost_ret (v := .tuple #[v, .int .i64 0]) (by simp [results, Tryz.results235, go_sem]) rfl ?_
        exact ⟨v, rfl, by rw [← HE.out]; exact hown, hx⟩

theorem ret_boolV {a b : Bool} (h : a = b) : Ending.returned (.bool a) = Ending.returned (.bool b) := by rw [h]
theorem isNaN_any (b : Nat) (w : World) : Calls Tryz.prog 233 #[.float .f64 b] w fun e w' => e = .returned (.bool (isNanF b)) ∧ w = w' := by
  have h := order_self b
  have H := Lib.hid h
  clear h
  go_enter Tryz.func233, Tryz.ntmps233
  go_wp2_with (fail)
  go_ret
  exact ⟨ret_boolV H.out, rfl⟩
theorem nanF_nat (b : Nat) : nanF (b : Int) = isNanF b := by
  unfold nanF isNanF
  congr 1
  apply propext
  constructor <;> intro h <;> omega

theorem float_any (b : Nat) (w : World) (hb : b < 18446744073709551616) : Calls Tryz.prog 216 #[.float .f64 b] w fun e w' =>
    e = .returned (.agg #[.int .u8 3, .int .i64 0, .int .u64 (floatV b).f, .string ⟨#[]⟩]) ∧ Below w.heap.size w w' := by
  cases hN : isNanF b with
  | true =>
    have hf : (floatV b).f = 9221120237041090560 := by unfold floatV; rw [nanF_nat, hN]; rfl
    rw [hf]
    have H := Lib.hid hN
    clear hf hN
    go_enter Tryz.func216, Tryz.ntmps216
    go_wp2_with (go_at_call 233; refine (isNaN_any b _).mono ?_; rintro e w1 ⟨rfl, rfl⟩; rw [H.out])
    refine bodyPost_ret (v := .agg #[.int .u8 3, .int .i64 0, .int .u64 9221120237041090560, .string ⟨#[]⟩]) (by simp [results, Tryz.results216, go_sem]) rfl ?_
    exact ⟨rfl, ext_alloc w _⟩
  | false =>
    have hf : (floatV b).f = b := by unfold floatV; rw [nanF_nat, hN]; rfl
    rw [hf]
    have H := Lib.hid hN
    clear hf hN
    go_enter Tryz.func216, Tryz.ntmps216
    go_wp2_with (go_at_call 233; refine (isNaN_any b _).mono ?_; rintro e w1 ⟨rfl, rfl⟩; rw [H.out])
    refine bodyPost_ret (v := .agg #[.int .u8 3, .int .i64 0, .int .u64 b, .string ⟨#[]⟩]) (by simp [results, Tryz.results216, go_sem]) rfl ?_
    exact ⟨rfl, ext_alloc w _⟩

def strI (s : ByteArray) : List Int := intB s.data.toList
theorem strI_len (s : ByteArray) : (strI s).length = s.size := by rw [strI, intB_len, Array.length_toList]; rfl
def textOk (s : ByteArray) : Bool := (readR (strI s)).isSome
theorem conv_bytes (s : ByteArray) (W : World) : (convert 9 232 (.string s)).run Tryz.prog W = .ok (.slice (some ⟨W.heap.size, 0, none⟩) s.size (grownCap W s.size 0 5)) (Lib.bytesWorld W 5 s) :=
  Lib.run_convert_string_bytes W _ _ _ s Tryz.strT Tryz.slU8 Tryz.uU8
theorem bytes_below (s : ByteArray) (W : World) : Below W.heap.size W (Lib.bytesWorld W 5 s) := by
  refine ⟨?_, ?_, ?_, by rw [Lib.bytesWorld_size]; omega, fun k hk => Lib.bytesWorld_at_old W _ s k hk⟩ <;> (unfold Lib.bytesWorld World.freeze; split <;> rfl)
theorem bytes_rd (s : ByteArray) (W : World) : RdU8 (Lib.bytesWorld W 5 s) (Lib.bytesWorld W 5 s).heap.size (some ⟨W.heap.size, 0, none⟩) (strI s) := by
  refine rd_intB.2 fun hl => ⟨_, rfl, by rw [Lib.bytesWorld_size]; exact Nat.lt_succ_self _, fun i hi j u hu => ?_⟩
  have hj : j = 0 ∧ u = .int .u8 (s.data.toList[i].toNat : Int) := by
    cases j with
    | zero => simp [encB] at hu; exact ⟨rfl, hu.symm⟩
    | succ j => simp [encB] at hu
  obtain ⟨rfl, rfl⟩ := hj
  have hs : i < s.size := by have h := hi; rw [Array.length_toList] at h; exact h
  have := Lib.bytesWorld_cell W 5 s i hs
  rw [add_zero', Nat.mul_one]
  rw [show (⟨W.heap.size, 0, none⟩ : Addr).add i = ⟨W.heap.size, i, none⟩ from by unfold Addr.add; split <;> simp_all]
  rw [this]
  rw [List.getD, List.getElem?_eq_getElem hi]
  rfl

def TextOut (s : ByteArray) (w : World) (e : Ending) (w' : World) : Prop :=
  e = .returned (.tuple #[if s.size ≤ 64 ∧ textOk s = true then .agg #[.int .u8 4, .int .i64 0, .int .u64 0, .string s] else .agg #[.int .u8 0, .int .i64 0, .int .u64 0, .string ⟨#[]⟩], .int .i64 (if s.size ≤ 64 ∧ textOk s = true then 0 else 3)]) ∧ Below w.heap.size w w'

set_option maxHeartbeats 1600000 in
theorem text_any (s : ByteArray) (w : World) (hT : Lib.Utf8Tabs 1 2 w) :
    Calls Tryz.prog 218 #[.string s] w (TextOut s w) := by
  by_cases h64 : 64 < s.size
  · have hz : (64 : Int) < (s.size : Int) := by omega
    have HN := Lib.hid (show ¬ (s.size ≤ 64 ∧ textOk s = true) by omega)
    go_enter Tryz.func218, Tryz.ntmps218
    go_wp2_with (fail)
    refine bodyPost_ret (v := .tuple #[.agg #[.int .u8 0, .int .i64 0, .int .u64 0, .string ⟨#[]⟩], .int .i64 3]) (by simp [results, Tryz.results218, go_sem]) rfl ?_
    exact ⟨by rw [if_neg HN.out, if_neg HN.out], ext_alloc w _⟩
  · have hz : ¬ ((64 : Int) < (s.size : Int)) := by omega
    have hcv := conv_bytes s
    go_enter Tryz.func218, Tryz.ntmps218
    go_wp2_with (go_at_call 235; refine Hid.out ?_)
    clear hcv
    refine Lib.hid ?_
    obtain ⟨w1, hw1⟩ : ∃ X : World, X = w.alloc (.cells #[.int .u8 0, .int .i64 0, .int .u64 0, .string ⟨#[]⟩] 41) := ⟨_, rfl⟩
    have y1 : Below w.heap.size w w1 := by rw [hw1]; exact ext_alloc w _
    have hbox : w1.heap[w.heap.size]? = some (.cells #[.int .u8 0, .int .i64 0, .int .u64 0, .string ⟨#[]⟩] 41 (0, 0)) := by rw [hw1]; exact heap_alloc_new w _
    have hsz : w1.heap.size = w.heap.size + 1 := by rw [hw1, World.size_alloc]
    rw [← hw1]
    clear hw1
    have y2 := bytes_below s w1
    have r2 := bytes_rd s w1
    rw [hsz] at r2
    have hcap := grownCap_ge w1 s.size 0 5
    generalize grownCap w1 s.size 0 5 = c at *
    have hbox2 := (y2.block w.heap.size (by omega)).trans hbox
    have x2 := ext_trans y1 y2
    have hsz2 : w.heap.size < (Lib.bytesWorld w1 5 s).heap.size := by rw [Lib.bytesWorld_size]; omega
    generalize Lib.bytesWorld w1 5 s = w2 at *
    refine (read_any (some ⟨w.heap.size + 1, 0, none⟩) s.size c (strI s) w2 (strI_len s).symm hcap r2 (by omega) (intB_mem _) (Utf8Tabs_below hT x2)).mono ?_
    rintro e w3 ⟨v, rfl, _, y3⟩
    have hbox3 := (y3.block w.heap.size hsz2).trans hbox2
    have x3 := ext_trans x2 y3
    obtain ⟨b0, b1, b2, b3⟩ := box_v hbox3
    have hfr := box_free hbox3
    have hsz3 : w.heap.size < w3.heap.size := by have := y3.size; omega
    clear hbox hbox2 hbox3 r2 y1 y2 y3 x2 hcap hsz hsz2
    obtain ⟨E, hE⟩ : ∃ X : Int, (if (readR (strI s)).isSome = true then (0 : Int) else 3) = X := ⟨_, rfl⟩
    rw [hE]
    cases hok : (readR (strI s)).isSome with
    | true =>
      have h0 : E = 0 := by rw [← hE, if_pos hok]
      subst h0
      have HN := Lib.hid (show s.size ≤ 64 ∧ textOk s = true from ⟨by omega, hok⟩)
      clear hE hok
      have hf0 := hfr 0
      have hf1 := hfr 1
      have hf2 := hfr 2
      have hf3 := hfr 3
      clear hfr
      go_wp2_with (fail)
      refine bodyPost_ret (v := .tuple #[.agg #[.int .u8 4, .int .i64 0, .int .u64 0, .string s], .int .i64 0]) (by simp [results, Tryz.results218, go_sem, b0, b1, b2, b3]) rfl ?_
      exact ⟨by rw [if_pos HN.out, if_pos HN.out], ((((x3.setCell (by simp) _).setCell (by simp) _).setCell (by simp) _).setCell (by simp) _)⟩
    | false =>
      have h0 : E = 3 := by rw [← hE, if_neg (by rw [hok]; simp)]
      subst h0
      have HN := Lib.hid (show ¬ (s.size ≤ 64 ∧ textOk s = true) from fun h => by have := h.2; unfold textOk at this; rw [hok] at this; cases this)
      clear hE hok
      have hf0 := hfr 0
      have hf1 := hfr 1
      have hf2 := hfr 2
      have hf3 := hfr 3
      clear hfr
      go_wp2_with (fail)
      refine bodyPost_ret (v := .tuple #[.agg #[.int .u8 0, .int .i64 0, .int .u64 0, .string ⟨#[]⟩], .int .i64 3]) (by simp [results, Tryz.results218, go_sem, b0, b1, b2, b3]) rfl ?_
      exact ⟨by rw [if_neg HN.out, if_neg HN.out], ((((x3.setCell (by simp) _).setCell (by simp) _).setCell (by simp) _).setCell (by simp) _)⟩

def mayV (v : V) : Bool :=
  if v.k = 1 then beqV v (flagV (decide (v.n = 1)))
  else if v.k = 2 then beqV v (intV v.n)
  else if v.k = 3 then beqV v (floatV v.f)
  else if v.k = 4 then (decide (v.s.size ≤ 64 ∧ textOk v.s = true) && beqV v (textV v.s))
  else false

def MayOut (v : V) (w : World) (e : Ending) (w' : World) : Prop := e = .returned (.bool (mayV v)) ∧ Below w.heap.size w w'

set_option maxHeartbeats 1600000 in
theorem mayV_any (k n f : Int) (s : ByteArray) (w : World) (hf0 : 0 ≤ f) (hf1 : f < 18446744073709551616) (hT : Lib.Utf8Tabs 1 2 w) :
    Calls Tryz.prog 184 #[.agg #[.int .u8 k, .int .i64 n, .int .u64 f, .string s]] w (MayOut ⟨k, n, f, s⟩ w) := by
  obtain ⟨R, hR⟩ : ∃ X, mayV ⟨k, n, f, s⟩ = X := ⟨_, rfl⟩
  unfold MayOut
  rw [hR]
  have y1 : Below w.heap.size w (w.alloc (.cells #[.int .u8 k, .int .i64 n, .int .u64 f, .string s] 41)) := ext_alloc w _
  have HBX := Lib.hid (heap_alloc_new w (.cells #[.int .u8 k, .int .i64 n, .int .u64 f, .string s] 41))
  have hlt : w.heap.size < (w.alloc (.cells #[.int .u8 k, .int .i64 n, .int .u64 f, .string s] 41)).heap.size := by simp
  by_cases h1 : k = 1
  · subst h1
    obtain ⟨b, hb⟩ : ∃ X : Bool, (n == 1) = X := ⟨_, rfl⟩
    have hd : decide (n = 1) = b := by rw [← hb]; rfl
    have hb2 := hb
    rw [show mayV ⟨1, n, f, s⟩ = beqV ⟨1, n, f, s⟩ ⟨1, if decide (n = 1) = true then 1 else 0, 0, ⟨#[]⟩⟩ from rfl, hd] at hR
    obtain ⟨m, hm⟩ : ∃ X : Int, (if b = true then (1 : Int) else 0) = X := ⟨_, rfl⟩
    rw [hm] at hR
    have HM := Lib.hid hm
    have HR := Lib.hid hR
    clear hR hd hm hb2
    go_enter Tryz.func184, Tryz.ntmps184
    go_wp2_with (fail)
    generalize w.alloc (.cells #[.int .u8 1, .int .i64 n, .int .u64 f, .string s] 41) = w1 at *
    obtain ⟨b0, b1, b2, b3⟩ := box_v HBX.out
    go_region_held3 (fun w' => w'.cell? ⟨w.heap.size, 0, none⟩ = some (.int .u8 1) ∧ w'.cell? ⟨w.heap.size, 1, none⟩ = some (.int .i64 n) ∧ w'.cell? ⟨w.heap.size, 2, none⟩ = some (.int .u64 f) ∧ w'.cell? ⟨w.heap.size, 3, none⟩ = some (.string s))
      (go_keep) ((go_at_call 214; refine (flag_any b _).mono ?_; rw [HM.out]; rintro e w2 ⟨rfl, y⟩; have x2 : Below w.heap.size w w2 := ext_trans y1 (show Below w1.heap.size w1 w2 from ⟨y.os, y.tape, y.output, y.size, y.block⟩); obtain ⟨f0, f1, f2, f3⟩ := box_v ((y.block w.heap.size hlt).trans HBX.out); clear y))
    all_goals go_wp2_with (fail)
    all_goals go_ret
    all_goals exact ⟨ret_boolV HR.out, by first | exact x2 | exact below_draws x2⟩
  · by_cases h2 : k = 2
    · subst h2
      rw [show mayV ⟨2, n, f, s⟩ = beqV ⟨2, n, f, s⟩ ⟨2, n, 0, ⟨#[]⟩⟩ from rfl] at hR
      have HR := Lib.hid hR
      clear hR h1
      go_enter Tryz.func184, Tryz.ntmps184
      go_wp2_with (fail)
      generalize w.alloc (.cells #[.int .u8 2, .int .i64 n, .int .u64 f, .string s] 41) = w1 at *
      obtain ⟨b0, b1, b2, b3⟩ := box_v HBX.out
      go_region_held3 (fun w' => w'.cell? ⟨w.heap.size, 0, none⟩ = some (.int .u8 2) ∧ w'.cell? ⟨w.heap.size, 1, none⟩ = some (.int .i64 n) ∧ w'.cell? ⟨w.heap.size, 2, none⟩ = some (.int .u64 f) ∧ w'.cell? ⟨w.heap.size, 3, none⟩ = some (.string s))
        (go_keep) ((go_at_call 215; refine (int_any n _).mono ?_; rintro e w2 ⟨rfl, y⟩; have x2 : Below w.heap.size w w2 := ext_trans y1 (show Below w1.heap.size w1 w2 from ⟨y.os, y.tape, y.output, y.size, y.block⟩); obtain ⟨f0, f1, f2, f3⟩ := box_v ((y.block w.heap.size hlt).trans HBX.out); clear y))
      all_goals go_wp2_with (fail)
      all_goals go_ret
      all_goals exact ⟨ret_boolV HR.out, by first | exact x2 | exact below_draws x2⟩
    · by_cases h3 : k = 3
      · subst h3
        obtain ⟨F, hF⟩ : ∃ X, (floatV f).f = X := ⟨_, rfl⟩
        rw [show mayV ⟨3, n, f, s⟩ = beqV ⟨3, n, f, s⟩ ⟨3, 0, (floatV f).f, ⟨#[]⟩⟩ from rfl, hF] at hR
        have HR := Lib.hid hR
        have HF := Lib.hid hF
        have hn := Int.toNat_of_nonneg hf0
        have HN := Lib.hid hn
        have hfl : f.toNat < 18446744073709551616 := by omega
        clear hR h1 h2 hF hn
        go_enter Tryz.func184, Tryz.ntmps184
        go_wp2_with (fail)
        generalize w.alloc (.cells #[.int .u8 3, .int .i64 n, .int .u64 f, .string s] 41) = w1 at *
        obtain ⟨b0, b1, b2, b3⟩ := box_v HBX.out
        go_region_held3 (fun w' => w'.cell? ⟨w.heap.size, 0, none⟩ = some (.int .u8 3) ∧ w'.cell? ⟨w.heap.size, 1, none⟩ = some (.int .i64 n) ∧ w'.cell? ⟨w.heap.size, 2, none⟩ = some (.int .u64 f) ∧ w'.cell? ⟨w.heap.size, 3, none⟩ = some (.string s))
          (go_keep) ((go_at_call 216; refine (float_any f.toNat _ hfl).mono ?_; rw [HN.out, HF.out]; rintro e w2 ⟨rfl, y⟩; have x2 : Below w.heap.size w w2 := ext_trans y1 (show Below w1.heap.size w1 w2 from ⟨y.os, y.tape, y.output, y.size, y.block⟩); obtain ⟨f0, f1, f2, f3⟩ := box_v ((y.block w.heap.size hlt).trans HBX.out); clear y))
        all_goals go_wp2_with (fail)
        all_goals go_ret
        all_goals exact ⟨ret_boolV HR.out, by first | exact x2 | exact below_draws x2⟩
      · by_cases h4 : k = 4
        · subst h4
          obtain ⟨O, hO⟩ : ∃ X : Bool, decide (s.size ≤ 64 ∧ textOk s = true) = X := ⟨_, rfl⟩
          rw [show mayV ⟨4, n, f, s⟩ = (decide (s.size ≤ 64 ∧ textOk s = true) && beqV ⟨4, n, f, s⟩ ⟨4, 0, 0, s⟩) from rfl, hO] at hR
          have HR := Lib.hid hR
          have HO := Lib.hid hO
          have hT1 := Utf8Tabs_below hT y1
          clear hR h1 h2 h3 hO
          go_enter Tryz.func184, Tryz.ntmps184
          go_wp2_with (go_at_call 218; refine Hid.out ?_)
          generalize w.alloc (.cells #[.int .u8 4, .int .i64 n, .int .u64 f, .string s] 41) = w1 at *
          refine Lib.hid ?_
          obtain ⟨b0, b1, b2, b3⟩ := box_v HBX.out
          refine (text_any s w1 hT1).mono ?_
          rintro e w2 ⟨he, y⟩
          have x2 := ext_trans y1 y
          obtain ⟨f0, f1, f2, f3⟩ := box_v ((y.block w.heap.size hlt).trans HBX.out)
          have hs2 : w.heap.size < w2.heap.size := by have := y.size; omega
          clear y b0 b1 b2 b3
          cases O with
          | true =>
            have ho := of_decide_eq_true HO.out
            rw [if_pos ho, if_pos ho] at he
            subst he
            clear ho
            go_wp2_with (fail)
            go_ret
            exact ⟨ret_boolV (by rw [← HR.out]; rfl), x2.alloc x2.size _⟩
          | false =>
            have ho := of_decide_eq_false HO.out
            rw [if_neg ho, if_neg ho] at he
            subst he
            clear ho
            go_wp2_with (fail)
            go_ret
            exact ⟨ret_boolV (by rw [← HR.out]; rfl), x2.alloc x2.size _⟩
        · have e : mayV ⟨k, n, f, s⟩ = false := by unfold mayV; simp only; rw [if_neg h1, if_neg h2, if_neg h3, if_neg h4]
          rw [e] at hR
          subst hR
          clear e
          have z1 : (k == 1) = false := beq_eq_false_iff_ne.2 h1
          have z2 : (k == 2) = false := beq_eq_false_iff_ne.2 h2
          have z3 : (k == 3) = false := beq_eq_false_iff_ne.2 h3
          have z4 : (k == 4) = false := beq_eq_false_iff_ne.2 h4
          clear h1 h2 h3 h4
          go_enter Tryz.func184, Tryz.ntmps184
          go_wp2_with (fail)
          go_ret
          exact ⟨rfl, y1⟩

def okV (v : V) : Prop := 0 ≤ v.k ∧ v.k ≤ 255 ∧ -9223372036854775808 ≤ v.n ∧ v.n ≤ 9223372036854775807 ∧ 0 ≤ v.f ∧ v.f ≤ 18446744073709551615
theorem okV.f0 {v : V} (h : okV v) : 0 ≤ v.f := h.2.2.2.2.1
theorem okV.f1 {v : V} (h : okV v) : v.f < 18446744073709551616 := by have := h.2.2.2.2.2; omega

theorem tabs_at {w v W : World} {a b : Nat} (hT : Lib.Utf8Tabs a b w) (h : Below w.heap.size w v) (e : W.heap = v.heap) : Lib.Utf8Tabs a b W := by
  have h2 := Utf8Tabs_below hT h
  have hc : ∀ p, W.cell? p = v.cell? p := fun p => by simp only [World.cell?, e]
  exact ⟨fun c hc' => by rw [hc]; exact h2.1 c hc', fun i hi => by rw [hc, hc]; exact h2.2 i hi⟩
theorem below_at {w v W w' : World} (h : Below w.heap.size w v) (y : Below W.heap.size W w') (e1 : W.heap = v.heap) (e2 : W.os = v.os) (e3 : W.tape = v.tape) (e4 : W.output = v.output) : Below w.heap.size w w' := by
  have y1 : Below v.heap.size v w' := ⟨by rw [← e2]; exact y.os, by rw [← e3]; exact y.tape, by rw [← e4]; exact y.output, by rw [← e1]; exact y.size, fun k hk => by rw [← e1]; exact y.block k (by rw [e1]; exact hk)⟩
  exact ext_trans h y1
theorem kept1 {v W w' : World} {b0 : Nat} {O0 : Obj} (h0 : v.heap[b0]? = some O0) (y : Below W.heap.size W w') (e : W.heap = v.heap) : w'.heap[b0]? = some O0 := by
  have hlt := (Array.getElem?_eq_some_iff.1 h0).1
  rw [y.block b0 (by rw [e]; exact hlt), e]
  exact h0

def mayK (k : Ky) : Bool :=
  decide (1 ≤ k.id ∧ k.id ≤ 1000 ∧ 1 ≤ k.kind ∧ k.kind ≤ 4) && (if k.block = true then !k.before && decide (0 ≤ k.group ∧ k.group ≤ 8) else decide (k.group = 0))

set_option maxHeartbeats 1600000 in
theorem mayK_any (i g n : Int) (b a f : Bool) (w : World) :
    Calls Tryz.prog 68 #[.agg #[.int .i64 i, .bool b, .int .u8 n, .bool a, .bool f, .int .i64 g]] w fun e w' => e = .returned (.bool (mayK ⟨i, b, n, a, f, g⟩)) ∧ Below w.heap.size w w' := by
  obtain ⟨R, hR⟩ : ∃ X, mayK ⟨i, b, n, a, f, g⟩ = X := ⟨_, rfl⟩
  rw [hR]
  unfold mayK at hR
  have HR := Lib.hid hR
  clear hR
  by_cases h1 : i < 1
  · go_enter Tryz.func68, Tryz.ntmps68
    go_wp2_with (fail)
    go_ret
    exact ⟨ret_bool (by rw [← HR.out]; simp; omega), ext_alloc w _⟩
  by_cases h2 : 1000 < i
  · go_enter Tryz.func68, Tryz.ntmps68
    go_wp2_with (fail)
    go_ret
    exact ⟨ret_bool (by rw [← HR.out]; simp; omega), ext_alloc w _⟩
  by_cases h3 : n < 1
  · go_enter Tryz.func68, Tryz.ntmps68
    go_wp2_with (fail)
    go_ret
    exact ⟨ret_bool (by rw [← HR.out]; simp; omega), ext_alloc w _⟩
  by_cases h4 : 4 < n
  · go_enter Tryz.func68, Tryz.ntmps68
    go_wp2_with (fail)
    go_ret
    exact ⟨ret_bool (by rw [← HR.out]; simp; omega), ext_alloc w _⟩
  have E4 := Lib.hid (show decide (1 ≤ i ∧ i ≤ 1000 ∧ 1 ≤ n ∧ n ≤ 4) = true by simp; omega)
  cases b with
  | false =>
    go_enter Tryz.func68, Tryz.ntmps68
    go_wp2_with (fail)
    go_ret
    exact ⟨ret_bool (by have h := HR.out; rw [E4.out] at h; rw [← h]; simp; rfl), ext_alloc w _⟩
  | true =>
    cases f with
    | true =>
      go_enter Tryz.func68, Tryz.ntmps68
      go_wp2_with (fail)
      go_ret
      exact ⟨ret_bool (by have h := HR.out; rw [E4.out] at h; rw [← h]; simp), ext_alloc w _⟩
    | false =>
      by_cases h5 : 0 ≤ g
      · go_enter Tryz.func68, Tryz.ntmps68
        go_wp2_with (fail)
        go_ret
        exact ⟨ret_bool (by have h := HR.out; rw [E4.out] at h; rw [← h]; simp [h5] <;> omega), ext_alloc w _⟩
      · go_enter Tryz.func68, Tryz.ntmps68
        go_wp2_with (fail)
        go_ret
        exact ⟨ret_bool (by have h := HR.out; rw [E4.out] at h; rw [← h]; simp [h5] <;> omega), ext_alloc w _⟩

def Sch (w : World) (s : Nat) (l : List Ky) : Prop :=
  ∃ bm A n c ls, w.heap[s]? = some (.cells #[.slice A n c, .map (some bm)] 109 (0, 0)) ∧ MapK w bm l ∧ n = ls.length ∧ ls.Perm l ∧ ls.Pairwise (fun a b => a.id ≤ b.id) ∧ RdKy w w.heap.size A ls
theorem lt_of_some {w : World} {b : Nat} {o : Obj} (h : w.heap[b]? = some o) : b < w.heap.size := (Array.getElem?_eq_some_iff.1 h).1
theorem MapK.ext {w w' : World} {b : Nat} {l : List Ky} (h : MapK w b l) (y : Below w.heap.size w w') : MapK w' b l := by
  obtain ⟨es, clock, he, hk⟩ := h
  exact ⟨es, clock, (y.block b (lt_of_some he)).trans he, hk⟩
theorem Sch.ext {w w' : World} {s : Nat} {l : List Ky} (h : Sch w s l) (y : Below w.heap.size w w') : Sch w' s l := by
  obtain ⟨bm, A, n, c, ls, hb, hm, hn, hp, hs, hr⟩ := h
  exact ⟨bm, A, n, c, ls, (y.block s (lt_of_some hb)).trans hb, hm.ext y, hn, hp, hs, hr.ext y⟩
theorem Sch.parts {w : World} {s : Nat} {l : List Ky} (h : Sch w s l) : ∃ bm sl, w.heap[s]? = some (.cells #[sl, .map (some bm)] 109 (0, 0)) ∧ MapK w bm l := by
  obtain ⟨bm, A, n, c, ls, hb, hm, _⟩ := h
  exact ⟨bm, _, hb, hm⟩

section
variable {ops : Array Oper} {rest : List Oper} {o : Oper} {a : Act} {Q : Exit → Act → World → Prop} {w : World}
theorem wpList_lookKy (hg : o.guard = none) (m x : Operand) (hop : o.op = Op.lookup 107 m x true) (b : Nat) (l : List Ky) (hm : a.eval m = .map (some b)) (hM : MapK w b l) (id : Int) (hx : a.eval x = .int .i64 id)
    (hK : ∀ i c n d f g q, (findK l id).getD Ky.zero = ⟨i, c, n, d, f, g⟩ → (findK l id).isSome = q → wpList Tryz.prog ops Q rest (a.put o.dst (.tuple #[.agg #[.int .i64 i, .bool c, .int .u8 n, .bool d, .bool f, .int .i64 g], .bool q])) w) : wpList Tryz.prog ops Q (o :: rest) a w := by
  refine wpList_plain hg fun K' hK' => ?_
  unfold Oper.wp
  simp [execOp, hop, hm, hx, hM.look id, Result.andThen]
  have h := hK ((findK l id).getD Ky.zero).id _ _ _ _ _ _ rfl rfl
  exact hK' _ _ h
end

def FindOutK (l : List Ky) (id : Int) (w : World) (e : Ending) (w' : World) : Prop :=
  ∃ i c n d f g q, e = .returned (.tuple #[.agg #[.int .i64 i, .bool c, .int .u8 n, .bool d, .bool f, .int .i64 g], .bool q]) ∧ (findK l id).getD Ky.zero = ⟨i, c, n, d, f, g⟩ ∧ (findK l id).isSome = q ∧ Below w.heap.size w w'

set_option maxHeartbeats 1600000 in
theorem findS_any (s : Nat) (l : List Ky) (id : Int) (w : World) (h : Sch w s l) :
    Calls Tryz.prog 62 #[.pointer (some ⟨s, 0, none⟩), .int .i64 id] w (FindOutK l id w) := by
  obtain ⟨bm, sl, hb, hm⟩ := h.parts
  have y := ext_alloc w (.cells #[.int .i64 0, .bool false, .int .u8 0, .bool false, .bool false, .int .i64 0] 97)
  have hb' := (y.block s (lt_of_some hb)).trans hb
  obtain ⟨es, clock, he, hk⟩ := hm
  have hm' : MapK (w.alloc (.cells #[.int .i64 0, .bool false, .int .u8 0, .bool false, .bool false, .int .i64 0] 97)) bm l := ⟨es, clock, (y.block bm (lt_of_some he)).trans he, hk⟩
  obtain ⟨c0, c1⟩ := box_2 hb'
  have HM := Lib.hid hm'
  clear hb hb' he hk hm'
  go_enter Tryz.func62, Tryz.ntmps62
  go_wp2_with (at_lookup; refine wpList_lookKy rfl _ _ rfl bm l rfl HM.out id rfl ?_; intro i c n d f g q hq1 hq2; have HQ1 := Lib.hid hq1; have HQ2 := Lib.hid hq2; clear hq1 hq2)
  refine bodyPost_ret (v := .tuple #[.agg #[.int .i64 i, .bool c, .int .u8 n, .bool d, .bool f, .int .i64 g], .bool q]) (by simp [results, Tryz.results62, go_sem]) rfl ?_
  exact ⟨i, c, n, d, f, g, q, rfl, HQ1.out, HQ2.out, by first | exact ext_trans (ext_alloc w _) (ext_alloc _ _) | trace_state⟩

def fitsK (l : List Ky) (id : Int) (v : V) : Bool :=
  match findK l id with
  | none => false
  | some k => decide (k.kind = v.k) && mayV v

set_option maxHeartbeats 1600000 in
theorem fitsS_any (s : Nat) (l : List Ky) (id k n f : Int) (t : ByteArray) (w : World) (h : Sch w s l) (h0 : 0 ≤ f) (h1 : f < 18446744073709551616)
    (hT : Lib.Utf8Tabs 1 2 w) :
    Calls Tryz.prog 185 #[.pointer (some ⟨s, 0, none⟩), .int .i64 id, .agg #[.int .u8 k, .int .i64 n, .int .u64 f, .string t]] w fun e w' => e = .returned (.bool (fitsK l id ⟨k, n, f, t⟩)) ∧ Below w.heap.size w w' := by
  obtain ⟨R, hR⟩ : ∃ X, fitsK l id ⟨k, n, f, t⟩ = X := ⟨_, rfl⟩
  obtain ⟨m, hm⟩ : ∃ X, mayV ⟨k, n, f, t⟩ = X := ⟨_, rfl⟩
  rw [hR]
  unfold fitsK at hR
  rw [hm] at hR
  have HR := Lib.hid hR
  have HMV := Lib.hid hm
  have y0 := ext_alloc w (.cells #[.int .u8 k, .int .i64 n, .int .u64 f, .string t] 41)
  have hv0 := heap_alloc_new w (.cells #[.int .u8 k, .int .i64 n, .int .u64 f, .string t] 41)
  have hs0 := h.ext y0
  have hT0 := Utf8Tabs_below hT y0
  clear hR hm h
  go_enter Tryz.func185, Tryz.ntmps185
  go_wp2_with (go_at_call 62; refine Hid.out ?_)
  refine Lib.hid ?_
  have H0 := Lib.hid hv0
  clear hv0
  generalize hw0 : w.alloc _ = w0 at *
  clear hw0
  refine (findS_any s l id w0 hs0).mono ?_
  rintro e w1 ⟨i, c, kd, d, g, q, b, rfl, hk, hb, y1⟩
  have hv1 := (y1.block w.heap.size (lt_of_some H0.out)).trans H0.out
  have y1' := ext_trans y0 y1
  have y2 := ext_alloc w1 (.cells #[.int .i64 i, .bool c, .int .u8 kd, .bool d, .bool g, .int .i64 q] 97)
  have hv2 := (y2.block w.heap.size (lt_of_some hv1)).trans hv1
  have hT2 := Utf8Tabs_below hT0 (ext_trans y1 y2)
  have yy := ext_trans y1' y2
  obtain ⟨a0, a1, a2, a3⟩ := box_v hv2
  have HB := Lib.hid hb
  have HK := Lib.hid hk
  clear hv1 hv2 H0 hb hk hT hT0 hs0
  cases b with
  | false =>
    go_wp2_with (fail)
    go_ret
    refine ⟨ret_bool ?_, yy⟩
    have h := HR.out
    have hb := HB.out
    cases hq : findK l id with
    | none => rw [hq] at h; exact h
    | some k => rw [hq] at hb; simp at hb
  | true =>
    obtain ⟨K, hK⟩ : ∃ K, findK l id = some K := Option.isSome_iff_exists.1 HB.out
    have hR := HR.out
    have hk := HK.out
    rw [hK] at hR hk
    simp only [Option.getD_some] at hk
    subst hk
    simp only at hR
    have HR := Lib.hid hR
    clear hR
    by_cases hkk : kd = k
    · subst hkk
      go_wp2_with (go_at_call 184; refine Hid.out ?_)
      refine Lib.hid ?_
      refine (mayV_any kd n f t _ h0 h1 hT2).mono ?_
      rintro e w3 ⟨rfl, y3⟩
      rw [HMV.out]
      go_wp2_with (fail)
      go_ret
      refine ⟨ret_bool ?_, below_at yy y3 rfl rfl rfl rfl⟩
      rw [← HR.out]; simp
    · go_wp2_with (fail)
      go_ret
      refine ⟨ret_bool ?_, yy⟩
      rw [← HR.out]; simp [hkk]
end Go.Proofs.YtfnkjcodcoehcaaGreatDoor
