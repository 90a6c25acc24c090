/- Small words for the walks of laws: cells that stay along a world, answers that are known. -/
import Derived.Test.YtfnkjcodcoehcaaGet05
import Derived.Test.YtfnkjcodcoehcaaSchema1
import Derived.BigQuiet
import Derived.Deep.QuietTactic
namespace Go.Proofs.Ytfnkjcodcoehcaa
open Go.RowKit
set_option linter.unusedVariables false
set_option linter.unusedSimpArgs false

/-- cells of a block that is there -/
def CellsIn (w : World) (p : Addr) (cs : List Value) : Prop := p.block < w.heap.size ∧ CellsAt w p cs
theorem CellsIn.ext {w w' : World} {p : Addr} {cs : List Value} (h : CellsIn w p cs) (y : Below w.heap.size w w') : CellsIn w' p cs :=
  ⟨Nat.lt_of_lt_of_le h.1 y.size, h.2.keep fun q hq => y.cell (by rw [hq]; exact h.1)⟩
theorem Rd.elIn {α : Type} {enc : α → List Value} {size : Nat} {w : World} {A : Option Addr} {l : List α} (h : Rd enc size w w.heap.size A l) {i : Nat} (hi : i < l.length) :
    ∃ ad a, A = some ad ∧ l.drop i = a :: l.drop (i + 1) ∧ l[i]? = some a ∧ CellsIn w (ad.add (i * size)) (enc a) := by
  obtain ⟨ad, a, h1, h2, h3, h4, h5⟩ := h.el hi
  exact ⟨ad, a, h1, h3, h4, by rw [add_block]; exact h2, h5⟩

theorem drew_ext {w w' : World} {d : Nat} (h : w' = w.drewN d) : Below w.heap.size w w' := by subst h; exact ext_drew w d
theorem findS_some (s : Nat) (l : List Ky) (id : Int) (w : World) (h : Sch w s l) {i n g : Int} {c d f : Bool} (hf : findK l id = some ⟨i, c, n, d, f, g⟩) :
    Calls Try.prog 35 #[.pointer (some ⟨s, 0, none⟩), .int .i64 id] w fun e w' => e = .returned (.tuple #[.agg #[.int .i64 i, .bool c, .int .u8 n, .bool d, .bool f, .int .i64 g], .bool true]) ∧ Below w.heap.size w w' :=
  (findS_any s l id w h).mono fun e w' ⟨i', c', n', d', f', g', q, he, h1, h2, y⟩ => by
    rw [hf] at h1 h2
    simp only [Option.getD_some, Option.isSome_some] at h1 h2
    injection h1 with a1 a2 a3 a4 a5 a6
    subst a1 a2 a3 a4 a5 a6 h2
    exact ⟨he, y⟩
theorem findS_none (s : Nat) (l : List Ky) (id : Int) (w : World) (h : Sch w s l) (hf : findK l id = none) :
    Calls Try.prog 35 #[.pointer (some ⟨s, 0, none⟩), .int .i64 id] w fun e w' => e = .returned (.tuple #[.agg #[.int .i64 0, .bool false, .int .u8 0, .bool false, .bool false, .int .i64 0], .bool false]) ∧ Below w.heap.size w w' :=
  (findS_any s l id w h).mono fun e w' ⟨i', c', n', d', f', g', q, he, h1, h2, y⟩ => by
    rw [hf] at h1 h2
    simp only [Option.getD_none, Option.isSome_none] at h1 h2
    injection h1 with a1 a2 a3 a4 a5 a6
    subst a1 a2 a3 a4 a5 a6 h2
    exact ⟨he, y⟩
theorem get05_some (A : Option Addr) (n c : Nat) (l : List At) (id : Int) (w : World) (hn : n = l.length) (h : RdAt w w.heap.size A l) (hb : n ≤ 140737488355328) {k m f : Int} {s : ByteArray} (hg : getA l id = some ⟨k, m, f, s⟩) :
    Calls Try.prog 43 #[.slice A n c, .int .i64 id] w fun e w' => e = .returned (.tuple #[.agg #[.int .u8 k, .int .i64 m, .int .u64 f, .string s], .bool true]) ∧ Below w.heap.size w w' :=
  (get05_any A n c l id w hn h hb).mono fun e w' ⟨k', m', f', s', q, he, h1, h2, y⟩ => by
    rw [hg] at h1 h2
    simp only [Option.getD_some, Option.isSome_some] at h1 h2
    injection h1 with a1 a2 a3 a4
    subst a1 a2 a3 a4 h2
    exact ⟨he, y⟩
theorem get05_none (A : Option Addr) (n c : Nat) (l : List At) (id : Int) (w : World) (hn : n = l.length) (h : RdAt w w.heap.size A l) (hb : n ≤ 140737488355328) (hg : getA l id = none) :
    Calls Try.prog 43 #[.slice A n c, .int .i64 id] w fun e w' => e = .returned (.tuple #[.agg #[.int .u8 0, .int .i64 0, .int .u64 0, .string ⟨#[]⟩], .bool false]) ∧ Below w.heap.size w w' :=
  (get05_any A n c l id w hn h hb).mono fun e w' ⟨k', m', f', s', q, he, h1, h2, y⟩ => by
    rw [hg] at h1 h2
    simp only [Option.getD_none, Option.isSome_none] at h1 h2
    injection h1 with a1 a2 a3 a4
    subst a1 a2 a3 a4 h2
    exact ⟨he, y⟩
end Go.Proofs.Ytfnkjcodcoehcaa
