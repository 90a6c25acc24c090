/- Merged texts: StepParts. -/
import Derived.Test.YtbdkbfoplpociaaGreatDoorE18
namespace Go.Proofs.YtbdkbfoplpociaaGreatDoor
open Go.RowKit
set_option linter.unusedVariables false
set_option linter.unusedSimpArgs false

section
variable {ops : Array Oper} {rest : List Oper} {o : Oper} {a : Act} {Q : Exit → Act → World → Prop} {w : World} {base : Nat} {v : Value} {K : Act → World → Prop} {E : Prop}
theorem step_at {l m : List At} (hgd : o.guard = none) (s x : Operand)
    (ho : o.op = .call { callee := .builtin .append, args := #[s, x], argTypes := #[38, 38] })
    (hsv : a.eval s = v) (hown : OwAt w base v l) (B : Nat) (A : Option Addr) (c n : Nat) (hx : a.eval x = .slice A n c) (hn : n = m.length) (hr : RdAt w B A m)
    (hb : l.length + m.length ≤ 1000000000000) (hbase : base ≤ w.heap.size)
    (h : ∀ v' w', OwAt w' base v' (l ++ m) → w.grownBy w' (wb v) → (v' = v ∧ w' = w ∨ wb v' = wb v ∨ wb v' = some w.heap.size) → K (a.put o.dst v') w') :
    if Region.wanted o (yielded ops a.tmps) = true then Oper.wp Tryz.prog o a w K Q else E := by
  have hw : Region.wanted o (yielded ops a.tmps) = true := by simp [Region.wanted, hgd]
  rw [if_pos hw]
  obtain ⟨i0, hi0, hz0, hz1, hz2⟩ := info_parts Tryz.infoAt
  exact wp_app s x _ ho i0 _ 48 Tryz.slAt hi0 hz0 hz1 hz2 rfl (by omega) At.enc_len At.enc_one hsv hown B A c n hx hn hr (by simp only [maxLen]; omega) (by omega) hbase h
theorem step_ch {l m : List Ch} (hgd : o.guard = none) (s x : Operand)
    (ho : o.op = .call { callee := .builtin .append, args := #[s, x], argTypes := #[37, 37] })
    (hsv : a.eval s = v) (hown : OwCh w base v l) (B : Nat) (A : Option Addr) (c n : Nat) (hx : a.eval x = .slice A n c) (hn : n = m.length) (hr : RdCh w B A m)
    (hb : l.length + m.length ≤ 1000000000000) (hbase : base ≤ w.heap.size)
    (h : ∀ v' w', OwCh w' base v' (l ++ m) → w.grownBy w' (wb v) → (v' = v ∧ w' = w ∨ wb v' = wb v ∨ wb v' = some w.heap.size) → K (a.put o.dst v') w') :
    if Region.wanted o (yielded ops a.tmps) = true then Oper.wp Tryz.prog o a w K Q else E := by
  have hw : Region.wanted o (yielded ops a.tmps) = true := by simp [Region.wanted, hgd]
  rw [if_pos hw]
  obtain ⟨i0, hi0, hz0, hz1, hz2⟩ := info_parts Tryz.infoCh
  exact wp_app s x _ ho i0 _ 56 Tryz.slCh hi0 hz0 hz1 hz2 rfl (by omega) Ch.enc_len Ch.enc_one hsv hown B A c n hx hn hr (by simp only [maxLen]; omega) (by omega) hbase h
theorem step_i32_0 {m : List Int} (hgd : o.guard = none) (s x : Operand)
    (ho : o.op = .call { callee := .builtin .append, args := #[s, x], argTypes := #[36, 36] })
    (hsv : ∃ A0, a.eval s = .slice A0 0 0) (base B : Nat) (A : Option Addr) (c n : Nat) (hx : a.eval x = .slice A n c) (hn : n = m.length) (hr : RdI32 w B A m)
    (hb : m.length ≤ 1000000000) (hbase : base ≤ w.heap.size)
    (h : ∀ v' w', OwI32 w' base v' m → w.grownBy w' none → K (a.put o.dst v') w') :
    if Region.wanted o (yielded ops a.tmps) = true then Oper.wp Tryz.prog o a w K Q else E := by
  obtain ⟨A0, e⟩ := hsv
  refine step_i32 (l := []) (m := m) hgd s x ho e (Ow.empty _ base _) B A c n hx hn hr (by simp only [List.length_nil]; omega) hbase ?_
  intro v' w' h1 h2 _
  have e2 : wb (.slice A0 0 0) = none := by cases A0 <;> rfl
  rw [e2] at h2
  exact h v' w' h1 h2
theorem step_at_0 {m : List At} (hgd : o.guard = none) (s x : Operand)
    (ho : o.op = .call { callee := .builtin .append, args := #[s, x], argTypes := #[38, 38] })
    (hsv : ∃ A0, a.eval s = .slice A0 0 0) (base B : Nat) (A : Option Addr) (c n : Nat) (hx : a.eval x = .slice A n c) (hn : n = m.length) (hr : RdAt w B A m)
    (hb : m.length ≤ 1000000000) (hbase : base ≤ w.heap.size)
    (h : ∀ v' w', OwAt w' base v' m → w.grownBy w' none → K (a.put o.dst v') w') :
    if Region.wanted o (yielded ops a.tmps) = true then Oper.wp Tryz.prog o a w K Q else E := by
  obtain ⟨A0, e⟩ := hsv
  refine step_at (l := []) (m := m) hgd s x ho e (Ow.empty _ base _) B A c n hx hn hr (by simp only [List.length_nil]; omega) hbase ?_
  intro v' w' h1 h2 _
  have e2 : wb (.slice A0 0 0) = none := by cases A0 <;> rfl
  rw [e2] at h2
  exact h v' w' h1 h2
theorem step_ch_0 {m : List Ch} (hgd : o.guard = none) (s x : Operand)
    (ho : o.op = .call { callee := .builtin .append, args := #[s, x], argTypes := #[37, 37] })
    (hsv : ∃ A0, a.eval s = .slice A0 0 0) (base B : Nat) (A : Option Addr) (c n : Nat) (hx : a.eval x = .slice A n c) (hn : n = m.length) (hr : RdCh w B A m)
    (hb : m.length ≤ 1000000000) (hbase : base ≤ w.heap.size)
    (h : ∀ v' w', OwCh w' base v' m → w.grownBy w' none → K (a.put o.dst v') w') :
    if Region.wanted o (yielded ops a.tmps) = true then Oper.wp Tryz.prog o a w K Q else E := by
  obtain ⟨A0, e⟩ := hsv
  refine step_ch (l := []) (m := m) hgd s x ho e (Ow.empty _ base _) B A c n hx hn hr (by simp only [List.length_nil]; omega) hbase ?_
  intro v' w' h1 h2 _
  have e2 : wb (.slice A0 0 0) = none := by cases A0 <;> rfl
  rw [e2] at h2
  exact h v' w' h1 h2
end
end Go.Proofs.YtbdkbfoplpociaaGreatDoor
