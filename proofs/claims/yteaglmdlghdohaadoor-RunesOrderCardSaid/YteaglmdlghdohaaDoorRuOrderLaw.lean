/- The plain law of RunesOrder: bytes stand as their runes do. -/
import Derived.Test.YteaglmdlghdohaaDoorRuJoin
namespace Go.Proofs.YteaglmdlghdohaaDoor
open Go.RowKit
set_option linter.unusedVariables false
set_option linter.unusedSimpArgs false

def lexI : List Int → List Int → Bool
  | _, [] => false
  | [], _ :: _ => true
  | a :: x, b :: y => decide (a < b) || (decide (a = b) && lexI x y)
theorem lex_lt {a b : Int} {x y : List Int} (h : a < b) : lexI (a :: x) (b :: y) = true := by simp [lexI, h]
theorem lex_eq {a b : Int} {x y : List Int} (h : a = b) : lexI (a :: x) (b :: y) = lexI x y := by subst h; simp [lexI]
theorem lex_gt {a b : Int} {x y : List Int} (h : b < a) : lexI (a :: x) (b :: y) = false := by
  have h1 : ¬ a < b := by omega
  have h2 : ¬ a = b := by omega
  simp [lexI, h1, h2]
theorem lex_append : ∀ (p x y : List Int), lexI (p ++ x) (p ++ y) = lexI x y
  | [], x, y => rfl
  | a :: p, x, y => by rw [List.cons_append, List.cons_append, lex_eq rfl, lex_append p x y]
theorem bl_lex : ∀ (x y : List Int), (∀ a ∈ x, 0 ≤ a ∧ a ≤ 255) → (∀ a ∈ y, 0 ≤ a ∧ a ≤ 255) → Op.bytesLess (x.map fun x => UInt8.ofNat x.toNat) (y.map fun x => UInt8.ofNat x.toNat) = lexI x y
  | x, [], _, _ => by cases x <;> simp [lexI, Op.bytesLess]
  | [], b :: y, _, _ => by simp [lexI, Op.bytesLess]
  | a :: x, b :: y, hx, hy => by
    have ha := hx a (by simp)
    have hb := hy b (by simp)
    have ih := bl_lex x y (fun z hz => hx z (by simp [hz])) (fun z hz => hy z (by simp [hz]))
    have ea : (UInt8.ofNat a.toNat).toNat = a.toNat := by rw [UInt8.toNat_ofNat']; omega
    have eb : (UInt8.ofNat b.toNat).toNat = b.toNat := by rw [UInt8.toNat_ofNat']; omega
    simp only [List.map_cons, Op.bytesLess]
    rw [ih]
    rcases Int.lt_trichotomy a b with h | h | h
    · rw [lex_lt h]
      have : UInt8.ofNat a.toNat < UInt8.ofNat b.toNat := by rw [UInt8.lt_iff_toNat_lt, ea, eb]; omega
      simp [this]
    · subst h
      rw [lex_eq rfl]
      simp
    · rw [lex_gt h]
      have h1 : ¬ UInt8.ofNat a.toNat < UInt8.ofNat b.toNat := by rw [UInt8.lt_iff_toNat_lt, ea, eb]; omega
      have h2 : ¬ UInt8.ofNat a.toNat = UInt8.ofNat b.toNat := fun e => by
        have := congrArg UInt8.toNat e
        rw [ea, eb] at this
        omega
      simp [h1, h2]
theorem lex_both {a b : Int} {x y : List Int} (h : a = b) (hh : lexI x y = true ∧ lexI y x = false) : lexI (a :: x) (b :: y) = true ∧ lexI (b :: y) (a :: x) = false := by
  rw [lex_eq h, lex_eq h.symm]; exact hh
/-- of two runes the greater one has the greater bytes -/
theorem enc_less {r s : Int} (hr : mayR r = true) (hs : mayR s = true) (h : r < s) (x y : List Int) : lexI (encR r ++ x) (encR s ++ y) = true ∧ lexI (encR s ++ y) (encR r ++ x) = false := by
  have br := mayR_le hr
  have bs := mayR_le hs
  by_cases r1 : r < 128
  · rw [encR_1 r1]
    by_cases s1 : s < 128
    · rw [encR_1 s1]; exact ⟨lex_lt h, lex_gt h⟩
    · by_cases s2 : s < 2048
      · rw [encR_2 s1 s2]; exact ⟨lex_lt (by omega), lex_gt (by omega)⟩
      · by_cases s3 : s < 65536
        · rw [encR_3 s2 s3]; exact ⟨lex_lt (by omega), lex_gt (by omega)⟩
        · rw [encR_4 s3]; exact ⟨lex_lt (by omega), lex_gt (by omega)⟩
  · by_cases r2 : r < 2048
    · rw [encR_2 r1 r2]
      by_cases s2 : s < 2048
      · rw [encR_2 (by omega) s2]
        simp only [List.cons_append, List.nil_append]
        by_cases e : r / 64 = s / 64
        · refine lex_both (by omega) ?_; exact ⟨lex_lt (by omega), lex_gt (by omega)⟩
        · exact ⟨lex_lt (by omega), lex_gt (by omega)⟩
      · by_cases s3 : s < 65536
        · rw [encR_3 s2 s3]; exact ⟨lex_lt (by omega), lex_gt (by omega)⟩
        · rw [encR_4 s3]; exact ⟨lex_lt (by omega), lex_gt (by omega)⟩
    · by_cases r3 : r < 65536
      · rw [encR_3 r2 r3]
        by_cases s3 : s < 65536
        · rw [encR_3 (by omega) s3]
          simp only [List.cons_append, List.nil_append]
          by_cases e : r / 4096 = s / 4096
          · refine lex_both (by omega) ?_
            by_cases e2 : r / 64 % 64 = s / 64 % 64
            · refine lex_both (by omega) ?_; exact ⟨lex_lt (by omega), lex_gt (by omega)⟩
            · exact ⟨lex_lt (by omega), lex_gt (by omega)⟩
          · exact ⟨lex_lt (by omega), lex_gt (by omega)⟩
        · rw [encR_4 s3]; exact ⟨lex_lt (by omega), lex_gt (by omega)⟩
      · rw [encR_4 r3, encR_4 (by omega)]
        simp only [List.cons_append, List.nil_append]
        by_cases e : r / 262144 = s / 262144
        · refine lex_both (by omega) ?_
          by_cases e2 : r / 4096 % 64 = s / 4096 % 64
          · refine lex_both (by omega) ?_
            by_cases e3 : r / 64 % 64 = s / 64 % 64
            · refine lex_both (by omega) ?_; exact ⟨lex_lt (by omega), lex_gt (by omega)⟩
            · exact ⟨lex_lt (by omega), lex_gt (by omega)⟩
          · exact ⟨lex_lt (by omega), lex_gt (by omega)⟩
        · exact ⟨lex_lt (by omega), lex_gt (by omega)⟩
theorem bytes_split (a : List Int) (k : Nat) : bytesR a = bytesR (a.take k) ++ bytesR (a.drop k) := by rw [← bytesR_append, List.take_append_drop]
theorem less_end {a b : List Int} {k : Nat} (h : a.take k = b.take k) (hb : b.length ≤ k) : lexI (bytesR a) (bytesR b) = false := by
  rw [bytes_split a k, bytes_split b k, h, lex_append, List.drop_eq_nil_of_le hb]
  show lexI _ [] = false
  cases bytesR (a.drop k) <;> rfl
theorem less_first {a b : List Int} {k : Nat} (h : a.take k = b.take k) (ha : a.length ≤ k) (hb : k < b.length) : lexI (bytesR a) (bytesR b) = true := by
  rw [bytes_split a k, bytes_split b k, h, lex_append, List.drop_eq_nil_of_le ha, List.drop_eq_getElem_cons hb]
  have e : bytesR (b[k] :: b.drop (k + 1)) = encR b[k] ++ bytesR (b.drop (k + 1)) := rfl
  rw [e]
  show lexI [] _ = true
  cases hh : encR b[k] with
  | nil => exact absurd hh (encR_ne _)
  | cons u t => rfl
theorem less_rune {a b : List Int} {k : Nat} {r s : Int} (oka : okR a = true) (okb : okR b = true) (h : a.take k = b.take k) (ha : a[k]? = some r) (hb : b[k]? = some s) (hne : r ≠ s) : lexI (bytesR a) (bytesR b) = decide (r < s) := by
  obtain ⟨hka, ea⟩ := List.getElem?_eq_some_iff.1 ha
  obtain ⟨hkb, eb⟩ := List.getElem?_eq_some_iff.1 hb
  have mr : mayR r = true := List.all_eq_true.1 oka r (List.mem_of_getElem? ha)
  have ms : mayR s = true := List.all_eq_true.1 okb s (List.mem_of_getElem? hb)
  rw [bytes_split a k, bytes_split b k, h, lex_append, List.drop_eq_getElem_cons hka, List.drop_eq_getElem_cons hkb, ea, eb]
  have e1 : bytesR (r :: a.drop (k + 1)) = encR r ++ bytesR (a.drop (k + 1)) := rfl
  have e2 : bytesR (s :: b.drop (k + 1)) = encR s ++ bytesR (b.drop (k + 1)) := rfl
  rw [e1, e2]
  rcases Int.lt_trichotomy r s with c | c | c
  · rw [(enc_less mr ms c _ _).1, decide_eq_true c]
  · exact absurd c hne
  · rw [(enc_less ms mr c _ _).2, decide_eq_false (by omega)]
theorem str_less {x y : List Int} (hx : ∀ a ∈ x, 0 ≤ a ∧ a ≤ 255) (hy : ∀ a ∈ y, 0 ≤ a ∧ a ≤ 255) : Op.bytesLess (strB x).toList (strB y).toList = lexI x y := by
  rw [← bl_lex x y hx hy]
  simp [strB]
end Go.Proofs.YteaglmdlghdohaaDoor
