/- The data of the program as plain structures, and how they lie in cells. -/
import Derived.Test.YtfnkjcodcoehcaaProg
import Derived.Test.YtfnkjcodcoehcaaBase
import Derived.KernelRfl
namespace Go.Proofs.Ytfnkjcodcoehcaa
open Go.RowKit

structure V where
  k : Int
  n : Int
  f : Int
  s : ByteArray
deriving DecidableEq
structure At where
  key : Int
  v : V
deriving DecidableEq
structure Ch where
  key : Int
  gone : Bool
  v : V
deriving DecidableEq
def V.zero : V := ⟨0, 0, 0, ⟨#[]⟩⟩

def At.enc (a : At) : List Value := [.int .i64 a.key, .int .u8 a.v.k, .int .i64 a.v.n, .int .u64 a.v.f, .string a.v.s]
def Ch.enc (a : Ch) : List Value := [.int .i64 a.key, .bool a.gone, .int .u8 a.v.k, .int .i64 a.v.n, .int .u64 a.v.f, .string a.v.s]
def V.val (v : V) : Value := .agg #[.int .u8 v.k, .int .i64 v.n, .int .u64 v.f, .string v.s]
def At.val (a : At) : Value := .agg #[.int .i64 a.key, .int .u8 a.v.k, .int .i64 a.v.n, .int .u64 a.v.f, .string a.v.s]
def Ch.val (a : Ch) : Value := .agg #[.int .i64 a.key, .bool a.gone, .int .u8 a.v.k, .int .i64 a.v.n, .int .u64 a.v.f, .string a.v.s]

theorem At.enc_len (a : At) : a.enc.length = 5 := rfl
theorem Ch.enc_len (a : Ch) : a.enc.length = 6 := rfl
theorem At.enc_one (a : At) : ∀ u ∈ a.enc, u.oneCell' = true := by intro u hu; simp [At.enc] at hu; rcases hu with rfl | rfl | rfl | rfl | rfl <;> rfl
theorem Ch.enc_one (a : Ch) : ∀ u ∈ a.enc, u.oneCell' = true := by intro u hu; simp [Ch.enc] at hu; rcases hu with rfl | rfl | rfl | rfl | rfl | rfl <;> rfl

section
variable {w : World} {p : Addr}
theorem cellsAt_lit {cs : List Value} (h : CellsAt w p cs) (j : Nat) {u : Value} (hj : cs[j + 1]? = some u) : w.cell? { block := p.block, off := p.off + (j + 1) } = some u := by
  have := h (j + 1) u hj
  simpa [Addr.add] using this
theorem at_cells {k a n f : Int} {s : ByteArray} (h : CellsAt w p (At.enc ⟨k, ⟨a, n, f, s⟩⟩)) :
    w.cell? p = some (.int .i64 k) ∧ w.cell? { block := p.block, off := p.off + 1 } = some (.int .u8 a) ∧ w.cell? { block := p.block, off := p.off + 2 } = some (.int .i64 n) ∧ w.cell? { block := p.block, off := p.off + 3 } = some (.int .u64 f) ∧ w.cell? { block := p.block, off := p.off + 4 } = some (.string s) := by
  have h0 := h 0 _ rfl
  rw [add_zero'] at h0
  exact ⟨h0, cellsAt_lit h 0 rfl, cellsAt_lit h 1 rfl, cellsAt_lit h 2 rfl, cellsAt_lit h 3 rfl⟩
theorem ch_cells {k a n f : Int} {g : Bool} {s : ByteArray} (h : CellsAt w p (Ch.enc ⟨k, g, ⟨a, n, f, s⟩⟩)) :
    w.cell? p = some (.int .i64 k) ∧ w.cell? { block := p.block, off := p.off + 1 } = some (.bool g) ∧ w.cell? { block := p.block, off := p.off + 2 } = some (.int .u8 a) ∧ w.cell? { block := p.block, off := p.off + 3 } = some (.int .i64 n) ∧ w.cell? { block := p.block, off := p.off + 4 } = some (.int .u64 f) ∧ w.cell? { block := p.block, off := p.off + 5 } = some (.string s) := by
  have h0 := h 0 _ rfl
  rw [add_zero'] at h0
  exact ⟨h0, cellsAt_lit h 0 rfl, cellsAt_lit h 1 rfl, cellsAt_lit h 2 rfl, cellsAt_lit h 3 rfl, cellsAt_lit h 4 rfl⟩

/-- A struct that lies in a box of its own: its cells. -/
theorem box_ch {b : Nat} {t : TypeId} {c0 c1 c2 c3 c4 c5 : Value} (h : w.heap[b]? = some (.cells #[c0, c1, c2, c3, c4, c5] t (0, 0))) :
    w.cell? ⟨b, 0, none⟩ = some c0 ∧ w.cell? ⟨b, 1, none⟩ = some c1 ∧ w.cell? ⟨b, 2, none⟩ = some c2 ∧ w.cell? ⟨b, 3, none⟩ = some c3 ∧ w.cell? ⟨b, 4, none⟩ = some c4 ∧ w.cell? ⟨b, 5, none⟩ = some c5 := by
  simp [World.cell?, h]
theorem box_at {b : Nat} {t : TypeId} {c0 c1 c2 c3 c4 : Value} (h : w.heap[b]? = some (.cells #[c0, c1, c2, c3, c4] t (0, 0))) :
    w.cell? ⟨b, 0, none⟩ = some c0 ∧ w.cell? ⟨b, 1, none⟩ = some c1 ∧ w.cell? ⟨b, 2, none⟩ = some c2 ∧ w.cell? ⟨b, 3, none⟩ = some c3 ∧ w.cell? ⟨b, 4, none⟩ = some c4 := by
  simp [World.cell?, h]

theorem box_v {b : Nat} {t : TypeId} {c0 c1 c2 c3 : Value} (h : w.heap[b]? = some (.cells #[c0, c1, c2, c3] t (0, 0))) :
    w.cell? ⟨b, 0, none⟩ = some c0 ∧ w.cell? ⟨b, 1, none⟩ = some c1 ∧ w.cell? ⟨b, 2, none⟩ = some c2 ∧ w.cell? ⟨b, 3, none⟩ = some c3 := by
  simp [World.cell?, h]
theorem box_free {b : Nat} {t : TypeId} {cs : Array Value} (h : w.heap[b]? = some (.cells cs t (0, 0))) : ∀ j, w.frozen? ⟨b, j, none⟩ = false := by
  intro j; simp [World.frozen?, h]

/-- A new block that holds one element reads as a list of one. -/
theorem rd_one {α : Type} {enc : α → List Value} {size : Nat} (w : World) (e : TypeId) (a : α) {cs : Array Value} (hc : cs.toList = enc a) :
    Rd enc size (w.alloc (.cells cs e)) (w.heap.size + 1) (some ⟨w.heap.size, 0, none⟩) [a] := by
  intro _
  refine ⟨_, rfl, by simp, fun i hi j u hu => ?_⟩
  have hi0 : i = 0 := by simpa using hi
  subst hi0
  simp only [List.getElem_cons_zero] at hu
  rw [← hc] at hu
  have hh := heap_alloc_new w (.cells cs e)
  simp only [Nat.zero_mul, add_zero']
  unfold Addr.add
  split
  · rename_i h0; subst h0
    simp only [World.cell?, hh]; simpa using hu
  · simp only [World.cell?, hh]; simpa using hu
end

theorem le_alloc (w : World) (o : Obj) : w.heap.size ≤ (w.alloc o).heap.size := by simp
theorem size_alloc' (w : World) (o : Obj) : w.heap.size + 1 = (w.alloc o).heap.size := by simp
theorem rd_one_at {α : Type} {enc : α → List Value} {size : Nat} (w : World) (e : TypeId) (a : α) {cs : Array Value} (hc : cs.toList = enc a) {b : Nat} (hb : b = w.heap.size) :
    Rd enc size (w.alloc (.cells cs e)) (w.heap.size + 1) (some ⟨b, 0, none⟩) [a] := by
  subst hb
  exact rd_one w e a hc

theorem Try.infoAt : (Try.prog.info? 55).map (fun i => (i.zero, i.size, i.bytes)) = some (some (At.val ⟨0, V.zero⟩), 5, 48) := by kernel_rfl
theorem Try.infoCh : (Try.prog.info? 49).map (fun i => (i.zero, i.size, i.bytes)) = some (some (Ch.val ⟨0, false, V.zero⟩), 6, 56) := by kernel_rfl
theorem Try.slAt : Try.prog.underlying 24 = some (.slice 55) := by kernel_rfl
theorem Try.slCh : Try.prog.underlying 23 = some (.slice 49) := by kernel_rfl

abbrev OwAt := @Ow At At.enc 5 55
abbrev OwCh := @Ow Ch Ch.enc 6 49
abbrev RdAt := @Rd At At.enc 5
abbrev RdCh := @Rd Ch Ch.enc 6

section
variable {ops : Array Oper} {rest : List Oper} {o : Oper} {a : Act} {Q : Exit → Act → World → Prop} {w : World} {base : Nat} {v : Value}
theorem app_at {l m : List At} (hgd : o.guard = none) (s x : Operand)
    (ho : o.op = .call { callee := .builtin .append, args := #[s, x], argTypes := #[24, 24] })
    (hsv : a.eval s = v) (hown : OwAt w base v l) (B : Nat) (A : Option Addr) (c n : Nat) (hx : a.eval x = .slice A n c) (hn : n = m.length) (hr : RdAt w B A m)
    (hb : l.length + m.length ≤ 2000000000000) (hbase : base ≤ w.heap.size)
    (h : ∀ v' w', OwAt w' base v' (l ++ m) → w.grownBy w' (wb v) → (v' = v ∧ w' = w ∨ wb v' = wb v ∨ wb v' = some w.heap.size) → wpList Try.prog ops Q rest (a.put o.dst v') w') : wpList Try.prog ops Q (o :: rest) a w := by
  obtain ⟨i0, hi0, hz0, hz1, hz2⟩ := info_parts Try.infoAt
  exact wpList_app hgd s x _ ho i0 _ 48 Try.slAt hi0 hz0 hz1 hz2 rfl (by omega) At.enc_len At.enc_one hsv hown B A c n hx hn hr (by simp only [maxLen]; omega) (by omega) hbase h
theorem app_ch {l m : List Ch} (hgd : o.guard = none) (s x : Operand)
    (ho : o.op = .call { callee := .builtin .append, args := #[s, x], argTypes := #[23, 23] })
    (hsv : a.eval s = v) (hown : OwCh w base v l) (B : Nat) (A : Option Addr) (c n : Nat) (hx : a.eval x = .slice A n c) (hn : n = m.length) (hr : RdCh w B A m)
    (hb : l.length + m.length ≤ 2000000000000) (hbase : base ≤ w.heap.size)
    (h : ∀ v' w', OwCh w' base v' (l ++ m) → w.grownBy w' (wb v) → (v' = v ∧ w' = w ∨ wb v' = wb v ∨ wb v' = some w.heap.size) → wpList Try.prog ops Q rest (a.put o.dst v') w') : wpList Try.prog ops Q (o :: rest) a w := by
  obtain ⟨i0, hi0, hz0, hz1, hz2⟩ := info_parts Try.infoCh
  exact wpList_app hgd s x _ ho i0 _ 56 Try.slCh hi0 hz0 hz1 hz2 rfl (by omega) Ch.enc_len Ch.enc_one hsv hown B A c n hx hn hr (by simp only [maxLen]; omega) (by omega) hbase h
end
end Go.Proofs.Ytfnkjcodcoehcaa
