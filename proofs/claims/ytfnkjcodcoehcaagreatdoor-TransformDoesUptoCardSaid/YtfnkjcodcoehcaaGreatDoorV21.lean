/- Merged texts: Tran22K. -/
import Derived.Test.YtfnkjcodcoehcaaGreatDoorV20
import Derived.Test.YtfnkjcodcoehcaaGreatDoorV16
import Derived.Test.YtfnkjcodcoehcaaGreatDoorV18
namespace Go.Proofs.YtfnkjcodcoehcaaGreatDoor
open Go.RowKit Go.MapKept
set_option linter.unusedVariables false
set_option linter.unusedSimpArgs false

theorem push_many {w wr w3 w9 : World} {ov v9 : Value} {D M : List OpS} (row : RowF wr (fun _ => False) w.heap.size ov D) (y : Below w.heap.size w wr) (y3 : Below wr.heap.size wr w3) (hp : ∀ x ∈ M, PartF w (fun _ => False) x)
    (ho : OwOs w9 w.heap.size v9 (D ++ M)) (g : w3.grownBy w9 (wb ov)) (hv : v9 = ov ∧ w9 = w3 ∨ wb v9 = wb ov ∨ wb v9 = some w3.heap.size) :
    RowF w9 (fun _ => False) w.heap.size v9 (D ++ M) ∧ Below w.heap.size w w9 := by
  have yy := ext_trans y y3
  have wl := row.own.wb_lt
  exact ⟨(row.ext y3).app (fun z hz => (hp z hz).fresh yy row.low) ho g hv, yy.grown g yy.size (fun k hk => (wl k hk).1)⟩
def OpsB (b : Nat) (D : List OpS) : Prop := ∀ z ∈ D, isOp z.o ∧ z.o.s.length ≤ b ∧ z.o.p.length ≤ b
theorem OpsB.app {b : Nat} {D M : List OpS} (h : OpsB b D) (k : OpsB b M) : OpsB b (D ++ M) := fun z hz => by
  rcases List.mem_append.1 hz with h1 | h1
  · exact h z h1
  · exact k z h1
theorem OpsB.ret {b : Nat} {n : Int} {p : List Ch} {Ap : Option Addr} {cp : Nat} (hn : 1 ≤ n) (hp : p.length ≤ b) : OpsB b [⟨opR n p, none, 0, none, 0, Ap, cp⟩] := fun z hz => by
  rw [List.mem_singleton] at hz; subst hz; exact ⟨.inr (.inr ⟨rfl, hn, rfl, rfl⟩), Nat.zero_le _, hp⟩
theorem OpsB.del {b : Nat} : OpsB b [⟨opD 1, none, 0, none, 0, none, 0⟩] := fun z hz => by
  rw [List.mem_singleton] at hz; subst hz; exact ⟨.inr (.inl ⟨rfl, by decide, rfl, rfl, rfl⟩), Nat.zero_le _, Nat.zero_le _⟩
theorem OpsB.ins {b : Nat} {Q : List OpS} (h : OpsB b Q) (g : Nat) : OpsB b (insPl Q g) := fun z hz => h z (insPl_mem Q g z hz).1
theorem OpsB.nil (b : Nat) : OpsB b [] := fun z hz => by cases hz
theorem row_cap {w : World} {F : Nat → Prop} {B : Nat} {ov : Value} {D : List OpS} {b K : Nat} (h : RowF w F B ov D) (hb : OpsB b D) (hu : (units (osOf D)).length ≤ K) : D.length ≤ 2 * K := by
  have := szN_unitsT (fun z hz => (hb z hz).1)
  have := szN_len D
  omega
theorem takes_le_len : ∀ us : List Un, takesU us ≤ us.length
  | [] => Nat.le_refl _
  | .ins r s :: us => by have := takes_le_len us; show takesU us ≤ us.length + 1; omega
  | .del :: us => by have := takes_le_len us; show takesU us + 1 ≤ us.length + 1; omega
  | .ret p :: us => by have := takes_le_len us; show takesU us + 1 ≤ us.length + 1; omega
def isGone (c : Option OpS) : Prop := ∃ z, c = some z ∧ z.o.k = 3
theorem goneV_pos {c : Option OpS} (h : isGone c) : goneV c = .int .i64 1 := by
  obtain ⟨z, rfl, hz⟩ := h; unfold goneV; simp [hz]
theorem goneV_neg {c : Option OpS} (h : ¬ isGone c) : goneV c = .int .i64 0 := by
  cases c with
  | none => rfl
  | some z =>
    have hz : ¬ z.o.k = 3 := fun e => h ⟨z, rfl, e⟩
    unfold goneV; simp [hz]
def patL (c : Option OpS) : List Ch := match c with | some z => z.o.p | none => []
def patA (c : Option OpS) : Option Addr := match c with | some z => z.Ap | none => none
def patC (c : Option OpS) : Nat := match c with | some z => z.cp | none => 0
theorem patV_eq {c : Option OpS} (h : ¬ isGone c) : patV c = .slice (patA c) (patL c).length (patC c) := by
  cases c with
  | none => rfl
  | some z =>
    have hz : ¬ z.o.k = 3 := fun e => h ⟨z, rfl, e⟩
    unfold patV; simp [hz]; exact ⟨rfl, rfl, rfl⟩
theorem past_pos {c : Option OpS} (f : Bool) (v : Un) (h : isGone c) : pastCell f (c.map cel1) v = [] := by
  obtain ⟨z, rfl, hz⟩ := h
  have : cel1 z = .del := by unfold cel1; rw [if_neg (by rw [hz]; decide)]
  simp only [Option.map_some, this]
  cases v <;> rfl
theorem cel_ret {z : OpS} (hi : isOp z.o) (h2 : ¬ z.o.k = 2) (h3 : ¬ z.o.k = 3) : cel1 z = .ret z.o.p := by
  unfold cel1
  rcases hi with ⟨h, _⟩ | ⟨h, _⟩ | ⟨h, _⟩
  · exact absurd h h2
  · exact absurd h h3
  · rw [if_pos h]
theorem past_del {c : Option OpS} (f : Bool) (h : ¬ isGone c) (hc : ∀ z, c = some z → isOp z.o ∧ ¬ z.o.k = 2) : pastCell f (c.map cel1) .del = [.del] := by
  cases c with
  | none => rfl
  | some z =>
    obtain ⟨h1, h2⟩ := hc z rfl
    simp only [Option.map_some, cel_ret h1 h2 (fun e => h ⟨z, rfl, e⟩)]; rfl
theorem past_ret {c : Option OpS} (f : Bool) (q : List Ch) (h : ¬ isGone c) (hc : ∀ z, c = some z → isOp z.o ∧ ¬ z.o.k = 2) : pastCell f (c.map cel1) (.ret q) = [.ret (pastP f q (patL c))] := by
  cases c with
  | none => show [Un.ret q] = [.ret (pastP f q [])]; rw [past_nil]
  | some z =>
    obtain ⟨h1, h2⟩ := hc z rfl
    simp only [Option.map_some, cel_ret h1 h2 (fun e => h ⟨z, rfl, e⟩)]; rfl
theorem cel_in {P : List OpS} {g : Nat} (hi : ∀ z ∈ P, isOp z.o) : ∀ z, celPl P g = some z → isOp z.o ∧ ¬ z.o.k = 2 := fun z hz => by
  have hlt : g < takPl P := by
    rcases Nat.lt_or_ge g (takPl P) with h | h
    · exact h
    · rw [celPl_past P g h] at hz; cases hz
  obtain ⟨z', h1, h2, h3⟩ := celPl_there P g hlt
  rw [hz] at h1; injection h1 with h1; subst h1
  exact ⟨hi _ h2, h3⟩
theorem pat_rd {w : World} {P : List OpS} {g : Nat} (h : ∀ z ∈ P, RdCh w w.heap.size z.Ap z.o.p) : RdCh w w.heap.size (patA (celPl P g)) (patL (celPl P g)) := by
  cases hc : celPl P g with
  | none => exact Rd.nil
  | some z =>
    have hlt : g < takPl P := by
      rcases Nat.lt_or_ge g (takPl P) with h | h
      · exact h
      · rw [celPl_past P g h] at hc; cases hc
    obtain ⟨z', h1, h2, h3⟩ := celPl_there P g hlt
    rw [hc] at h1; injection h1 with h1; subst h1
    exact h _ h2
theorem pat_len {b : Nat} {P : List OpS} {g : Nat} (h : OpsB b P) : (patL (celPl P g)).length ≤ b := by
  cases hc : celPl P g with
  | none => exact Nat.zero_le _
  | some z =>
    have hlt : g < takPl P := by
      rcases Nat.lt_or_ge g (takPl P) with h | h
      · exact h
      · rw [celPl_past P g h] at hc; cases hc
    obtain ⟨z', h1, h2, h3⟩ := celPl_there P g hlt
    rw [hc] at h1; injection h1 with h1; subst h1
    exact (h _ h2).2.2
theorem part_pat {w : World} {F : Nat → Prop} {z : OpS} {n : Int} (h : PartF w F z) : PartF w F ⟨opR n z.o.p, none, 0, none, 0, z.Ap, z.cp⟩ :=
  ⟨⟨Rd.nil, fun ad e => by cases e⟩, ⟨Rd.nil, fun ad e => by cases e⟩, h.2.2⟩
theorem units_oneS (o : Opd) (a b c : Option Addr) (d e f : Nat) : units (osOf [(⟨o, a, d, b, e, c, f⟩ : OpS)]) = unitsO o := by
  show unitsO o ++ [] = _; rw [List.append_nil]
theorem unitsO_sk (n : Nat) : unitsO (opR (n : Int) []) = rets n := by rw [unitsO_R]; unfold rets; simp
theorem box_y {w w' : World} {b m : Nat} {t : TypeId} {c0 c1 c2 c3 : Value} (y : Hid (Below m w w')) (hm : b < m) (h : Hid (w.heap[b]? = some (.cells #[c0, c1, c2, c3] t (0, 0)))) :
    w'.cell? ⟨b, 0, none⟩ = some c0 ∧ w'.cell? ⟨b, 1, none⟩ = some c1 ∧ w'.cell? ⟨b, 2, none⟩ = some c2 ∧ w'.cell? ⟨b, 3, none⟩ = some c3 := box_v ((y.out.block _ hm).trans h.out)
section
variable {ops : Array Oper} {rest : List Oper} {o : Oper} {a : Act} {Q : Exit → Act → World → Prop} {w w0 : World} {g b : Nat} {kv : List (Int × Value)} {v : Value}
theorem lkO (E : Hid ((findV kv (g : Int)).getD (.slice none 0 0) = v)) (M : Hid (MapV w0 b kv)) (y : Hid (Below w0.heap.size w0 w)) (hg : o.guard = none) (m x : Operand) (hop : o.op = Op.lookup 157 m x false) (hm : a.eval m = .map (some b)) (hx : a.eval x = .int .i64 (g : Int))
    (hK : wpList Tryz.prog ops Q rest (a.put o.dst v) w) : wpList Tryz.prog ops Q (o :: rest) a w := by
  refine wpList_lookV hg m x hop (g : Int) hm hx Tryz.mpOps Tryz.zeroOps (M.out.ext y.out) ?_
  rw [E.out]; exact hK
theorem lkN (E : Hid ((findV kv (g : Int)).getD (.int .i64 0) = v)) (M : Hid (MapV w0 b kv)) (y : Hid (Below w0.heap.size w0 w)) (hg : o.guard = none) (m x : Operand) (hop : o.op = Op.lookup 158 m x false) (hm : a.eval m = .map (some b)) (hx : a.eval x = .int .i64 (g : Int))
    (hK : wpList Tryz.prog ops Q rest (a.put o.dst v) w) : wpList Tryz.prog ops Q (o :: rest) a w := by
  refine wpList_lookV hg m x hop (g : Int) hm hx Tryz.mpNum Tryz.zeroNum (M.out.ext y.out) ?_
  rw [E.out]; exact hK
theorem lkC (E : Hid ((findV kv (g : Int)).getD (.slice none 0 0) = v)) (M : Hid (MapV w0 b kv)) (y : Hid (Below w0.heap.size w0 w)) (hg : o.guard = none) (m x : Operand) (hop : o.op = Op.lookup 159 m x false) (hm : a.eval m = .map (some b)) (hx : a.eval x = .int .i64 (g : Int))
    (hK : wpList Tryz.prog ops Q rest (a.put o.dst v) w) : wpList Tryz.prog ops Q (o :: rest) a w := by
  refine wpList_lookV hg m x hop (g : Int) hm hx Tryz.mpChs Tryz.zeroChs (M.out.ext y.out) ?_
  rw [E.out]; exact hK
end
theorem lessP_len (p q : List Ch) : (lessP p q).length ≤ p.length := by unfold lessP; exact List.length_filter_le _ _
end Go.Proofs.YtfnkjcodcoehcaaGreatDoor
