/- '==' and '!=' of the program's structs. -/
import Derived.Test.YtfnkjcodcoehcaaTypes
namespace Go.Proofs.Ytfnkjcodcoehcaa
open Go.RowKit

theorem bytes_list (a b : ByteArray) : (a.toList = b.toList) ↔ a = b := by
  constructor
  · intro h
    rw [ByteArray.toList_eq, ByteArray.toList_eq] at h
    obtain ⟨⟨x⟩⟩ := a
    obtain ⟨⟨y⟩⟩ := b
    simp at h
    rw [h]
  · intro h; rw [h]

theorem eqin_v (w : World) (d : Nat) (k n f k' n' f' : Int) (s s' : ByteArray) :
    (Op.equalIn (d + 2) 47 (.agg #[.int .u8 k, .int .i64 n, .int .u64 f, .string s]) (.agg #[.int .u8 k', .int .i64 n', .int .u64 f', .string s'])).run Try.prog w =
      .ok (decide ((⟨k, n, f, s⟩ : V) = ⟨k', n', f', s'⟩)) w := by
  go_simp
  by_cases h1 : k = k' <;> by_cases h2 : n = n' <;> by_cases h3 : f = f' <;> by_cases h4 : s = s' <;> simp [h1, h2, h3, h4, bytes_list]
theorem eqin_at (w : World) (d : Nat) (q k n f q' k' n' f' : Int) (s s' : ByteArray) :
    (Op.equalIn (d + 3) 55 (.agg #[.int .i64 q, .int .u8 k, .int .i64 n, .int .u64 f, .string s]) (.agg #[.int .i64 q', .int .u8 k', .int .i64 n', .int .u64 f', .string s'])).run Try.prog w =
      .ok (decide ((⟨q, ⟨k, n, f, s⟩⟩ : At) = ⟨q', ⟨k', n', f', s'⟩⟩)) w := by
  go_simp
  by_cases h1 : k = k' <;> by_cases h2 : n = n' <;> by_cases h3 : f = f' <;> by_cases h4 : s = s' <;> by_cases h5 : q = q' <;> simp [h1, h2, h3, h4, h5, bytes_list]
theorem eqin_ch (w : World) (d : Nat) (q k n f q' k' n' f' : Int) (g g' : Bool) (s s' : ByteArray) :
    (Op.equalIn (d + 3) 49 (.agg #[.int .i64 q, .bool g, .int .u8 k, .int .i64 n, .int .u64 f, .string s]) (.agg #[.int .i64 q', .bool g', .int .u8 k', .int .i64 n', .int .u64 f', .string s'])).run Try.prog w =
      .ok (decide ((⟨q, g, ⟨k, n, f, s⟩⟩ : Ch) = ⟨q', g', ⟨k', n', f', s'⟩⟩)) w := by
  go_simp
  by_cases h1 : k = k' <;> by_cases h2 : n = n' <;> by_cases h3 : f = f' <;> by_cases h4 : s = s' <;> by_cases h5 : q = q' <;> by_cases h6 : g = g' <;> simp [h1, h2, h3, h4, h5, h6, bytes_list]

def beqV (a b : V) : Bool := decide (a = b)
def beqAt (a b : At) : Bool := decide (a = b)
def beqCh (a b : Ch) : Bool := decide (a = b)
theorem beqV_eq {a b : V} (h : a = b) : beqV a b = true := decide_eq_true h
theorem beqV_ne {a b : V} (h : ¬ a = b) : beqV a b = false := decide_eq_false h
theorem beqAt_eq {a b : At} (h : a = b) : beqAt a b = true := decide_eq_true h
theorem beqAt_ne {a b : At} (h : ¬ a = b) : beqAt a b = false := decide_eq_false h
theorem beqCh_eq {a b : Ch} (h : a = b) : beqCh a b = true := decide_eq_true h
theorem beqCh_ne {a b : Ch} (h : ¬ a = b) : beqCh a b = false := decide_eq_false h

section
variable (w : World) (q k n f q' k' n' f' : Int) (g g' : Bool) (s s' : ByteArray)
@[go_sem high] theorem eql_v : (binOp .eql 47 (.agg #[.int .u8 k, .int .i64 n, .int .u64 f, .string s]) (.agg #[.int .u8 k', .int .i64 n', .int .u64 f', .string s'])).run Try.prog w =
      .ok (.bool (beqV ⟨k, n, f, s⟩ ⟨k', n', f', s'⟩)) w := by rw [run_eql_struct, eqin_v]; rfl
@[go_sem high] theorem neq_v : (binOp .neq 47 (.agg #[.int .u8 k, .int .i64 n, .int .u64 f, .string s]) (.agg #[.int .u8 k', .int .i64 n', .int .u64 f', .string s'])).run Try.prog w =
      .ok (.bool (!beqV ⟨k, n, f, s⟩ ⟨k', n', f', s'⟩)) w := by rw [run_neq_struct, eqin_v]; rfl
@[go_sem high] theorem eql_at : (binOp .eql 55 (.agg #[.int .i64 q, .int .u8 k, .int .i64 n, .int .u64 f, .string s]) (.agg #[.int .i64 q', .int .u8 k', .int .i64 n', .int .u64 f', .string s'])).run Try.prog w =
      .ok (.bool (beqAt ⟨q, ⟨k, n, f, s⟩⟩ ⟨q', ⟨k', n', f', s'⟩⟩)) w := by rw [run_eql_struct, eqin_at]; rfl
@[go_sem high] theorem neq_at : (binOp .neq 55 (.agg #[.int .i64 q, .int .u8 k, .int .i64 n, .int .u64 f, .string s]) (.agg #[.int .i64 q', .int .u8 k', .int .i64 n', .int .u64 f', .string s'])).run Try.prog w =
      .ok (.bool (!beqAt ⟨q, ⟨k, n, f, s⟩⟩ ⟨q', ⟨k', n', f', s'⟩⟩)) w := by rw [run_neq_struct, eqin_at]; rfl
@[go_sem high] theorem eql_ch : (binOp .eql 49 (.agg #[.int .i64 q, .bool g, .int .u8 k, .int .i64 n, .int .u64 f, .string s]) (.agg #[.int .i64 q', .bool g', .int .u8 k', .int .i64 n', .int .u64 f', .string s'])).run Try.prog w =
      .ok (.bool (beqCh ⟨q, g, ⟨k, n, f, s⟩⟩ ⟨q', g', ⟨k', n', f', s'⟩⟩)) w := by rw [run_eql_struct, eqin_ch]; rfl
@[go_sem high] theorem neq_ch : (binOp .neq 49 (.agg #[.int .i64 q, .bool g, .int .u8 k, .int .i64 n, .int .u64 f, .string s]) (.agg #[.int .i64 q', .bool g', .int .u8 k', .int .i64 n', .int .u64 f', .string s'])).run Try.prog w =
      .ok (.bool (!beqCh ⟨q, g, ⟨k, n, f, s⟩⟩ ⟨q', g', ⟨k', n', f', s'⟩⟩)) w := by rw [run_neq_struct, eqin_ch]; rfl
end
end Go.Proofs.Ytfnkjcodcoehcaa
