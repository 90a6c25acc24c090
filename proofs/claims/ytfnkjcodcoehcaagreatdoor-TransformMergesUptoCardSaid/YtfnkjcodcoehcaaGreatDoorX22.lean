/- Merged texts. -/
import Derived.Test.YtfnkjcodcoehcaaGreatDoorX21
namespace Go.Proofs.YtfnkjcodcoehcaaGreatDoor
set_option maxRecDepth 100000
set_option maxHeartbeats 4000000
open Go.RowKit
open Go.Lib (hid)
set_option linter.unusedVariables false
set_option linter.unusedSimpArgs false
theorem Below.grown0 {w w1 w2 : World} (h : Below w.heap.size w w1) (hg : w1.grownBy w2 none) : Below w.heap.size w w2 := h.grown hg h.size (fun k hk => by cases hk)
theorem Z9j {w wr wb5 w5 w6 w7 wc w9 : World} {ov v9 : Value} {D : List OpS} {x' : OpS} {O : Obj} (y : Below w.heap.size w wr) (yb : Below wr.heap.size wr wb5)
 (how : OwOs wr w.heap.size ov D) (hp : ∀ x ∈ D, ∀ g, wb ov = some g → PartN wr w.heap.size g x)
 (o5 : Z3p w5 wb5.heap.size (.slice x'.Ar x'.o.r.length x'.cr) x'.o.r) (z5 : Below w5.heap.size w5 wc)
 (o6 : OwAt w6 wb5.heap.size (.slice x'.As x'.o.s.length x'.cs) x'.o.s) (z6 : Below w6.heap.size w6 wc)
 (o7 : OwCh w7 wb5.heap.size (.slice x'.Ap x'.o.p.length x'.cp) x'.o.p) (z7 : Below w7.heap.size w7 wc)
 (yw : Below wb5.heap.size wb5 wc) (o9 : OwOs w9 w.heap.size v9 (D ++ [x'])) (g9 : (wc.alloc O).grownBy w9 (wb ov))
 (hv : v9 = ov ∧ w9 = wc.alloc O ∨ wb v9 = wb ov ∨ wb v9 = some (wc.alloc O).heap.size) :
 (∀ x ∈ D ++ [x'], ∀ g, wb v9 = some g → PartN w9 w.heap.size g x) ∧ Below w.heap.size w w9 := by
 have s0 := y.size
 have s1 := yb.size
 have s2 := yw.size
 have yc := Z0a yb yw
 have ya := Z0a yc (Z0b wc O)
 have hvw : ∀ g, wb v9 = some g → wb ov = some g ∨ wc.heap.size ≤ g := fun g hg => by
  rcases hv with ⟨h, _⟩ | h | h
  ·subst h; exact .inl hg
  ·exact .inl (h ▸ hg)
  ·rw [h] at hg; injection hg with hg; have : (wc.alloc O).heap.size = wc.heap.size + 1 := by simp
   exact .inr (by omega)
 have kb : ∀ k, k < wc.heap.size → wb ov ≠ some k → w9.heap[k]? = wc.heap[k]? := fun k hk hne =>
  (g9.block k (Nat.lt_of_lt_of_le hk (Z0b wc O).size) (fun e => hne e.symm)).trans ((Z0b wc O).block k hk)
 have hov : ∀ g, wb ov = some g → g < wr.heap.size := fun g hg => (how.wb_lt g hg).2
 refine ⟨fun x hx g hg => ?_, ?_⟩
 ·rcases List.mem_append.1 hx with hx | hx
  ·have part : ∀ {α : Type} {enc : α → List Value} {size : Nat} {e : TypeId} {v : Value} {l : List α}, Ow enc size e wr w.heap.size v l → (∀ b, wb ov = some b → wb v ≠ some b) → Ow enc size e w9 w.heap.size v l ∧ wb v ≠ some g := by
    intro α enc size e v l h hne
    refine ⟨h.keep fun k hk => ?_, fun e => ?_⟩
    ·have hlt := (h.wb_lt k hk).2
     rw [kb k (Nat.lt_of_lt_of_le hlt yc.size) (fun e => hne k e hk)]
     exact yc.block k hlt
    ·have hlt := (h.wb_lt g e).2
     rcases hvw g hg with h1 | h1
     ·exact hne g h1 e
     ·have := yc.size; omega
   have q : ∀ b, wb ov = some b → PartN wr w.heap.size b x := fun b hb => hp x hx b hb
   by_cases hb : ∃ b, wb ov = some b
   ·obtain ⟨b, hb⟩ := hb
    have p := q b hb
    exact ⟨part p.1.1 (fun b' hb' => (q b' hb').1.2), part p.2.1.1 (fun b' hb' => (q b' hb').2.1.2), part p.2.2.1 (fun b' hb' => (q b' hb').2.2.2)⟩
   ·exfalso
    have hpos : 0 < D.length := List.length_pos_of_mem hx
    obtain ⟨A', c', rfl, hc, _⟩ := how.form
    have hA : ∃ g, A' = some ⟨g, 0, none⟩ := by obtain ⟨g, cur, hA, _⟩ := how.row hpos; exact ⟨g, hA⟩
    obtain ⟨b, rfl⟩ := hA
    cases c' with
    | zero => omega
    | succ c' => exact hb ⟨b, rfl⟩
  ·simp at hx
   subst hx
   have part : ∀ {α : Type} {enc : α → List Value} {size : Nat} {e : TypeId} {v : Value} {l : List α} {wk : World}, Ow enc size e wk wb5.heap.size v l → Below wk.heap.size wk wc → Ow enc size e w9 w.heap.size v l ∧ wb v ≠ some g := by
    intro α enc size e v l wk h z
    have hlt : ∀ k, wb v = some k → wb5.heap.size ≤ k ∧ k < wc.heap.size := fun k hk => ⟨(h.wb_lt k hk).1, Nat.lt_of_lt_of_le (h.wb_lt k hk).2 z.size⟩
    refine ⟨((h.below z (Nat.le_refl _)).base_le (by omega)).keep fun k hk => kb k (hlt k hk).2 (fun e => by have := hov k e; have := (hlt k hk).1; omega), fun e => ?_⟩
    have h2 := hlt g e
    rcases hvw g hg with h1 | h1
    ·have := hov g h1; omega
    ·omega
   exact ⟨part o5 z5, part o6 z6, part o7 z7⟩
 ·have yy := Z0a y ya
  exact yy.grown g9 yy.size (fun k hk => (how.wb_lt k hk).1)
theorem Z21 (A : Option Addr) (n c : Nat) (l : List OpS) (w : World) (hn : n = l.length) (h : RdOp w w.heap.size A l) (hb : n ≤ 100000000) (hs : ∀ x ∈ l, x.o.r.length ≤ 100000000 ∧ x.o.s.length ≤ 100000000 ∧ x.o.p.length ≤ 100000000) :
 Calls Tryz.prog 32 #[.slice A n c] w (NewOps (osOf l) w) := by
 have N := hid hn
 have HS := hid hs
 have HX := hid h
 clear hn hs h
 go_enter Tryz.func32, Tryz.ntmps32
 go_wp2_with (fail)
 go_loopg [3, 4] n (fun g ov iv wr => ∃ (m : Nat) (D : List OpS), m ≤ n ∧ g = n - m ∧ iv = .int .i64 (m : Int) ∧ osOf D = osOf (l.take m) ∧ D.length = m ∧ OwOs wr w.heap.size ov D ∧ Hid (∀ x ∈ D, ∀ g, wb ov = some g → PartN wr w.heap.size g x) ∧ Below w.heap.size w wr)
 case atStart => exact ⟨0, [], by omega, rfl, rfl, rfl, rfl, Ow.nil _ _, hid (fun x hx => by cases hx), Below.refl _ _⟩
 case round =>
  obtain ⟨m, D, hm, hg, rfl, hDo, hD, hown, HP, y⟩ := hrel
  have HG := hid hg
  clear hg
  by_cases hlt : m < n
  ·have hl1 : m < l.length := by have := N.out; omega
   obtain ⟨ad, o, had0, hd1, hx1, hc0⟩ := (HX.out.ext y).1.elIn hl1
   subst had0
   have HM := hid hx1
   obtain ⟨g1, g2, g3⟩ := (HX.out.ext y).2 o (List.mem_of_getElem? hx1)
   obtain ⟨v3, v4, v5⟩ := HS.out o (List.mem_of_getElem? hx1)
   obtain ⟨⟨k, nn, r, s, p⟩, Ar, cr, As, cs, Ap, cp⟩ := o
   simp only at g1 g2 g3 v3 v4 v5
   have HC := hid hc0
   obtain ⟨r0, r1, r2, r3, r4⟩ := Z0o HC.out.2
   have G1 := hid g1
   have G2 := hid g2
   have G3 := hid g3
   have hw2 : IntKind.i64.wrap ((m:Int) + 1) = (m : Int) + 1 := IntWalk.i64_in _ (by omega)
   clear hc0 hd1 hx1 g1 g2 g3
   have yb := Z0b wr (.cells #[.int .u8 k, .int .i64 nn, .slice Ar r.length cr, .slice As s.length cs, .slice Ap p.length cp] 50)
   have hbx := heap_alloc_new wr (.cells #[.int .u8 k, .int .i64 nn, .slice Ar r.length cr, .slice As s.length cs, .slice Ap p.length cp] 50)
   have szb : (wr.alloc (.cells #[.int .u8 k, .int .i64 nn, .slice Ar r.length cr, .slice As s.length cs, .slice Ap p.length cp] 50)).heap.size = wr.heap.size + 1 := by simp
   have HOW := hid hown
   go_wp2_with (fail)
   generalize hwb : wr.alloc (.cells #[.int .u8 k, .int .i64 nn, .slice Ar r.length cr, .slice As s.length cs, .slice Ap p.length cp] 50) = wb at *
   have opb : ∀ {W : World}, Below wb.heap.size wb W → W.cell? ⟨wr.heap.size, 0, none⟩ = some (.int .u8 k) ∧ W.cell? ⟨wr.heap.size, 1, none⟩ = some (.int .i64 nn) ∧ W.cell? ⟨wr.heap.size, 2, none⟩ = some (.slice Ar r.length cr) ∧ W.cell? ⟨wr.heap.size, 3, none⟩ = some (.slice As s.length cs) ∧ W.cell? ⟨wr.heap.size, 4, none⟩ = some (.slice Ap p.length cp) := fun {W} yw => Z0L ((yw.block _ (by omega)).trans hbx)
   have YW : Hid (Below wb.heap.size wb wb.drew) := hid (Z0j (Below.refl _ _))
   have YB : Hid (Below wb.heap.size wb wb) := hid (Below.refl _ _)
   have G1 := hid (G1.out.ext yb)
   have G2 := hid (G2.out.ext yb)
   have G3 := hid (G3.out.ext yb)
   have Cw := opb YB.out
   have keepS : ∀ W : World, Below wb.heap.size wb W → Below wb.heap.size wb W ∧ W.cell? ⟨wr.heap.size, 0, none⟩ = some (.int .u8 k) ∧ W.cell? ⟨wr.heap.size, 1, none⟩ = some (.int .i64 nn) ∧ W.cell? ⟨wr.heap.size, 2, none⟩ = some (.slice Ar r.length cr) ∧ W.cell? ⟨wr.heap.size, 3, none⟩ = some (.slice As s.length cs) ∧ W.cell? ⟨wr.heap.size, 4, none⟩ = some (.slice Ap p.length cp) := fun W z => ⟨z, opb z⟩
   go_region_held_law (fun w' => w'.cell? ⟨wr.heap.size, 0, none⟩ = some (.int .u8 k) ∧ w'.cell? ⟨wr.heap.size, 1, none⟩ = some (.int .i64 nn) ∧ w'.cell? ⟨wr.heap.size, 2, none⟩ = some (.slice Ar r.length cr) ∧ w'.cell? ⟨wr.heap.size, 3, none⟩ = some (.slice As s.length cs) ∧ w'.cell? ⟨wr.heap.size, 4, none⟩ = some (.slice Ap p.length cp)) (first | exact C9 | exact opb (by repeat (first | exact YW.out | exact YB.out | refine Z0a ?_ (Z0b _ _) | refine Z0j ?_))) (first
    | (refine Z60 (m := r) rfl (.tmp 21) (.tmp 23) (by rfl) ⟨_, rfl⟩ wb.heap.size _ Ar cr r.length (by rfl) rfl (G1.out.ext (by repeat (first | exact YW.out | exact YB.out | refine Z0a ?_ (Z0b _ _) | refine Z0j ?_))) (by omega) (by exact ((by repeat (first | exact YW.out | exact YB.out | refine Z0a ?_ (Z0b _ _) | refine Z0j ?_)) : Below wb.heap.size wb _).size) ?_
       intro vI32 w5 hoI32 hgrI32
       obtain ⟨A5, k5, hv5, _, _⟩ := hoI32.form
       subst hv5
       have OI32 := hid hoI32
       have YW : Hid (Below wb.heap.size wb w5) := hid (Below.grown0 (by repeat (first | exact YW.out | exact YB.out | refine Z0a ?_ (Z0b _ _) | refine Z0j ?_)) hgrI32)
       have CI32 := opb YW.out
       try (have ZAt : Hid (Below w6.heap.size w6 w5) := hid (Below.grown0 (by repeat (first | exact ZAt.out | refine Z0a ?_ (Z0b _ _) | refine Z0j ?_)) hgrI32))
       try (have ZCh : Hid (Below w7.heap.size w7 w5) := hid (Below.grown0 (by repeat (first | exact ZCh.out | refine Z0a ?_ (Z0b _ _) | refine Z0j ?_)) hgrI32))
       have ZI32 : Hid (Below w5.heap.size w5 w5) := hid (Below.refl _ _)
       clear hoI32 hgrI32)
    | (refine Z6k (m := s) rfl (.tmp 25) (.tmp 27) (by rfl) ⟨_, rfl⟩ wb.heap.size _ As cs s.length (by rfl) rfl (G2.out.ext (by repeat (first | exact YW.out | exact YB.out | refine Z0a ?_ (Z0b _ _) | refine Z0j ?_))) (by omega) (by exact ((by repeat (first | exact YW.out | exact YB.out | refine Z0a ?_ (Z0b _ _) | refine Z0j ?_)) : Below wb.heap.size wb _).size) ?_
       intro vAt w6 hoAt hgrAt
       obtain ⟨A6, k6, hv6, _, _⟩ := hoAt.form
       subst hv6
       have OAt := hid hoAt
       have YW : Hid (Below wb.heap.size wb w6) := hid (Below.grown0 (by repeat (first | exact YW.out | exact YB.out | refine Z0a ?_ (Z0b _ _) | refine Z0j ?_)) hgrAt)
       have CAt := opb YW.out
       try (have ZI32 : Hid (Below w5.heap.size w5 w6) := hid (Below.grown0 (by repeat (first | exact ZI32.out | refine Z0a ?_ (Z0b _ _) | refine Z0j ?_)) hgrAt))
       try (have ZCh : Hid (Below w7.heap.size w7 w6) := hid (Below.grown0 (by repeat (first | exact ZCh.out | refine Z0a ?_ (Z0b _ _) | refine Z0j ?_)) hgrAt))
       have ZAt : Hid (Below w6.heap.size w6 w6) := hid (Below.refl _ _)
       clear hoAt hgrAt)
    | (refine Y2G (m := p) rfl (.tmp 29) (.tmp 31) (by rfl) ⟨_, rfl⟩ wb.heap.size _ Ap cp p.length (by rfl) rfl (G3.out.ext (by repeat (first | exact YW.out | exact YB.out | refine Z0a ?_ (Z0b _ _) | refine Z0j ?_))) (by omega) (by exact ((by repeat (first | exact YW.out | exact YB.out | refine Z0a ?_ (Z0b _ _) | refine Z0j ?_)) : Below wb.heap.size wb _).size) ?_
       intro vCh w7 hoCh hgrCh
       obtain ⟨A7, k7, hv7, _, _⟩ := hoCh.form
       subst hv7
       have OCh := hid hoCh
       have YW : Hid (Below wb.heap.size wb w7) := hid (Below.grown0 (by repeat (first | exact YW.out | exact YB.out | refine Z0a ?_ (Z0b _ _) | refine Z0j ?_)) hgrCh)
       have CCh := opb YW.out
       try (have ZI32 : Hid (Below w5.heap.size w5 w7) := hid (Below.grown0 (by repeat (first | exact ZI32.out | refine Z0a ?_ (Z0b _ _) | refine Z0j ?_)) hgrCh))
       try (have ZAt : Hid (Below w6.heap.size w6 w7) := hid (Below.grown0 (by repeat (first | exact ZAt.out | refine Z0a ?_ (Z0b _ _) | refine Z0j ?_)) hgrCh))
       have ZCh : Hid (Below w7.heap.size w7 w7) := hid (Below.refl _ _)
       clear hoCh hgrCh)
    | (refine Z2k (l := D) (m := [(⟨⟨k, nn, r, s, p⟩, A5, k5, A6, k6, A7, k7⟩ : OpS)]) rfl (.tmp 16) (.tmp 34) (by rfl) (by rfl) (HOW.out.below (Z0a (Z0a yb YW.out) (Z0b _ _)) (Nat.le_refl _)) _ _ 1 1 (by rfl) rfl (Z1E (enc := OpS.enc) (size := 5) w7 _ (⟨⟨k, nn, r, s, p⟩, A5, k5, A6, k6, A7, k7⟩ : OpS) rfl) (by simp only [List.length_singleton]; omega) (Nat.le_trans y.size (Z0a (Z0a yb YW.out) (Z0b _ _)).size) ?_
       intro v9 w9 ho9 hgr9 hw9
       have O9 := hid ho9
       have HW9 := hid hw9
       have HG9 := hid hgr9
       have C9 := Z0L ((hgr9.block wr.heap.size (Nat.lt_of_lt_of_le (by omega : wr.heap.size < wb.heap.size) (Z0a YW.out (Z0b _ _)).size) (fun e => by have := (HOW.out.wb_lt wr.heap.size e.symm).2; omega)).trans (((Z0a YW.out (Z0b _ _)).block wr.heap.size (by omega)).trans hbx))
       clear ho9 hgr9 hw9))
   all_goals
    have r := Z9j (x' := ⟨⟨k, nn, r, s, p⟩, A5, k5, A6, k6, A7, k7⟩) y yb HOW.out HP.out OI32.out ZI32.out OAt.out ZAt.out OCh.out ZCh.out YW.out O9.out HG9.out HW9.out
    have R1 := hid r.1
    have R2 := hid r.2
    clear r
    go_wp2_with (fail)
    go_roundg (n - (m + 1))
   all_goals first
    | (have := HG.out; omega)
    | (refine ⟨m + 1, D ++ [⟨⟨k, nn, r, s, p⟩, A5, k5, A6, k6, A7, k7⟩], by omega, rfl, by go_num, ?_, by simp [hD], O9.out, R1, R2.out⟩
       rw [List.take_add_one, HM.out]
       unfold osOf at hDo ⊢
       rw [List.map_append, List.map_append, hDo]; rfl)
  ·have hml : m = n := by omega
   subst hml
   have HO := hid hown
   have HD := hid hD
   have HDO := hid hDo
   clear hown hD hDo
   obtain ⟨A1, k1, hv1, _, _⟩ := HO.out.form
   subst hv1
   go_wp2_with (fail)
   go_ret
   refine ⟨A1, k1, D, rfl, by rw [HDO.out, N.out, List.take_length], HO.out, fun x hx => ?_, y⟩
   have hpos : 0 < D.length := List.length_pos_of_mem hx
   obtain ⟨g, cur, hA, _⟩ := HO.out.row hpos
   subst hA
   have hc := (Z3f HO.out).1
   cases k1 with
   | zero => omega
   | succ k1 => exact ⟨g, HP.out x hx g rfl⟩
structure SX where
 A : Option Addr
 c : Nat
 l : List OpS
def SX.enc (s : SX) : List Value := [.slice s.A s.l.length s.c]
def szA (s : List At) : Nat := (s.map (fun a => a.v.s.size)).sum
def szC (p : List Ch) : Nat := (p.map (fun a => a.v.s.size)).sum
def szO (o : Opd) : Nat := 1 + o.r.length + o.s.length + o.p.length + szA o.s + szC o.p
def szX (x : List OpS) : Nat := (x.map (fun o => szO o.o)).sum
theorem Z4B {α : Type} (f : α → Nat) {l : List α} {i : Nat} {a : α} (h : l[i]? = some a) : ((l.take (i + 1)).map f).sum = ((l.take i).map f).sum + f a := by
 rw [List.take_add_one, h]; simp
theorem Z2v {α : Type} (f : α → Nat) (l : List α) (i : Nat) : ((l.take i).map f).sum ≤ (l.map f).sum := by
 conv => rhs; rw [← List.take_append_drop i l]
 rw [List.map_append, List.sum_append]; omega
theorem Y2I {x : List OpS} {o : OpS} (h : o ∈ x) : szO o.o ≤ szX x := by
 induction x with
 | nil => cases h
 | cons a x ih =>
   show _ ≤ szO a.o + szX x
   rcases List.mem_cons.1 h with rfl | h
   ·omega
   ·have := ih h; omega
theorem Y1k (A : Option Addr) (n c : Nat) (x : List OpS) (w : World) (hn : n = x.length) (h : RdOp w w.heap.size A x) (hb : n ≤ 140737488355328) (hz : szX x ≤ 4611686018427387904) :
 Calls Tryz.prog 87 #[.slice A n c] w fun e w' => e = .returned (.int .i64 (szX x : Int)) ∧ ∃ d, w' = w.drewN d := by
 have N := hid hn
 have Z := hid hz
 clear hn hz
 go_enter Tryz.func87, Tryz.ntmps87
 go_wp2_with (fail)
 go_loopg [3, 4] n (fun g av iv wr => ∃ (m a : Nat), m ≤ n ∧ g = n - m ∧ a = szX (x.take m) ∧ av = .int .i64 (a : Int) ∧ iv = .int .i64 (m : Int) ∧ ∃ d, wr = w.drewN d)
 case atStart => exact ⟨0, 0, by omega, rfl, rfl, rfl, rfl, 0, rfl⟩
 case round =>
  obtain ⟨m, a, hm, hg, ha, rfl, rfl, d, rfl⟩ := hrel
  have HG := hid hg
  have HA := hid ha
  clear hg ha
  by_cases hlt : m < n
  ·have hl1 : m < x.length := by have := N.out; omega
   obtain ⟨ad, o, had0, had, hd1, hx1, hc0⟩ := h.1.el hl1
   subst had0
   have hmem := List.mem_of_getElem? hx1
   obtain ⟨g1, g2, g3⟩ := h.2 o hmem
   have TK : Hid (szX (x.take (m + 1)) = a + szO o.o) := hid (by rw [HA.out]; exact Z4B (fun o : OpS => szO o.o) hx1)
   have TB : Hid (a + szO o.o ≤ 4611686018427387904) := hid (by rw [← TK.out]; exact Nat.le_trans (Z2v (fun o : OpS => szO o.o) x (m + 1)) Z.out)
   obtain ⟨⟨k, nn, r, s, p⟩, Ar, cr, As, cs, Ap, cp⟩ := o
   simp only at g1 g2 g3 TK TB
   obtain ⟨r0, r1, r2, r3, r4⟩ := Z0o hc0
   obtain ⟨nr, hnr⟩ : ∃ X, r.length = X := ⟨_, rfl⟩
   obtain ⟨ns, hns⟩ : ∃ X, s.length = X := ⟨_, rfl⟩
   obtain ⟨np, hnp⟩ : ∃ X, p.length = X := ⟨_, rfl⟩
   have SO : Hid (szO ⟨k, nn, r, s, p⟩ = 1 + nr + ns + np + szA s + szC p) := hid (by rw [← hnr, ← hns, ← hnp]; rfl)
   have NS := hid hns
   have NP := hid hnp
   have B0 : a + 1 + nr + ns + np ≤ 4611686018427387904 := by have := TB.out; rw [SO.out] at this; omega
   rw [hnr] at r2
   rw [hns] at r3
   rw [hnp] at r4
   have hw2 : IntKind.i64.wrap ((m:Int) + 1) = (m : Int) + 1 := IntWalk.i64_in _ (by omega)
   have e1 : IntKind.i64.wrap ((a:Int) + 1) = (a : Int) + 1 := IntWalk.i64_in _ (by omega)
   have e2 : IntKind.i64.wrap ((a:Int) + 1 + (nr : Int)) = (a : Int) + 1 + nr := IntWalk.i64_in _ (by omega)
   have e3 : IntKind.i64.wrap ((a:Int) + 1 + (nr : Int) + (ns : Int)) = (a : Int) + 1 + nr + ns := IntWalk.i64_in _ (by omega)
   have e4 : IntKind.i64.wrap ((a:Int) + 1 + (nr : Int) + (ns : Int) + (np : Int)) = (a : Int) + 1 + nr + ns + np := IntWalk.i64_in _ (by omega)
   clear hc0 hd1 hx1 hmem hns hnp hnr
   go_wp2_with (fail)
   go_quiet (fail)
   go_wp2_with (fail)
   clear e1 e2 e3
   go_loopg [3, 5] ns (fun g av iv wi => ∃ (j b : Nat), j ≤ ns ∧ g = ns - j ∧ b = a + 1 + nr + ns + np + szA (s.take j) ∧ av = .int .i64 (b : Int) ∧ iv = .int .i64 (j : Int) ∧ ∃ d, wi = w.drewN d)
   case atStart => exact ⟨0, a + 1 + nr + ns + np, by omega, rfl, rfl, by first | rfl | (go_num) | (simp only [e4]; rfl) | (congr 1), rfl, _, (by first | rfl | exact World.drewN_drewN _ _ _)⟩
   case round =>
    obtain ⟨j, b, hj, hg2, hbj, rfl, rfl, d2, rfl⟩ := hrel
    have HG2 := hid hg2
    have HB := hid hbj
    clear hg2 hbj e4
    by_cases hls : j < ns
    ·obtain ⟨ad2, z, e2, _, _, hzj, hz⟩ := g2.el (i := j) (by have := NS.out; omega)
     subst e2
     have T2 : Hid (szA (s.take (j + 1)) = szA (s.take j) + z.v.s.size) := hid (Z4B (fun a : At => a.v.s.size) hzj)
     have T3 : Hid (szA (s.take (j + 1)) ≤ szA s) := hid (Z2v (fun a : At => a.v.s.size) s (j + 1))
     obtain ⟨z1, ⟨z2, z3, z4, z5⟩⟩ := z
     simp only at T2
     obtain ⟨s0, s1, s2, s3, s4⟩ := Z0P hz
     have hw3 : IntKind.i64.wrap ((j:Int) + 1) = (j : Int) + 1 := IntWalk.i64_in _ (by omega)
     have bnd : b + z5.size ≤ 4611686018427387904 := by
      have h1 := TB.out; have h2 := SO.out; have h3 := T2.out; have h4 := T3.out; have h5 := HB.out; omega
     have hw4 : IntKind.i64.wrap ((b:Int) + (z5.size : Int)) = (b : Int) + z5.size := IntWalk.i64_in _ (by omega)
     clear hz hzj
     go_wp2_with (fail)
     go_roundg (ns - (j + 1))
     case measure => have := HG2.out; omega
     case rel => exact ⟨j + 1, b + z5.size, by omega, rfl, by have := HB.out; have := T2.out; omega, by go_num, by go_num, _, rfl⟩
    ·have hjn : j = ns := by omega
     have HB9 : Hid (b = a + 1 + nr + ns + np + szA s) := hid (by have := HB.out; rwa [hjn, List.take_of_length_le (by rw [NS.out]; omega)] at this)
     clear hjn
     go_wp2_with (fail)
     go_loopg [3, 6] np (fun g av iv wi => ∃ (j q : Nat), j ≤ np ∧ g = np - j ∧ q = b + szC (p.take j) ∧ av = .int .i64 (q : Int) ∧ iv = .int .i64 (j : Int) ∧ ∃ d, wi = w.drewN d)
     case atStart => exact ⟨0, b, by omega, rfl, rfl, rfl, rfl, _, rfl⟩
     case round =>
      obtain ⟨t, q, ht, hg2, hq, rfl, rfl, d2, rfl⟩ := hrel
      have HG3 := hid hg2
      have HQ := hid hq
      clear hg2 hq
      by_cases hls : t < np
      ·obtain ⟨ad2, z, e2, _, _, hzj, hz⟩ := g3.el (i := t) (by have := NP.out; omega)
       subst e2
       have T2 : Hid (szC (p.take (t + 1)) = szC (p.take t) + z.v.s.size) := hid (Z4B (fun a : Ch => a.v.s.size) hzj)
       have T3 : Hid (szC (p.take (t + 1)) ≤ szC p) := hid (Z2v (fun a : Ch => a.v.s.size) p (t + 1))
       obtain ⟨z1, z6, ⟨z2, z3, z4, z5⟩⟩ := z
       simp only at T2
       obtain ⟨s0, s1, s2, s3, s4, s5⟩ := Z0I hz
       have hw3 : IntKind.i64.wrap ((t:Int) + 1) = (t : Int) + 1 := IntWalk.i64_in _ (by omega)
       have bnd : q + z5.size ≤ 4611686018427387904 := by
        have h1 := TB.out; have h2 := SO.out; have h3 := T2.out; have h4 := T3.out; have h5 := HB9.out; have h6 := HQ.out; omega
       have hw4 : IntKind.i64.wrap ((q:Int) + (z5.size : Int)) = (q : Int) + z5.size := IntWalk.i64_in _ (by omega)
       clear hz hzj
       go_wp2_with (fail)
       go_roundg (np - (t + 1))
       case measure => have := HG3.out; omega
       case rel => exact ⟨t + 1, q + z5.size, by omega, rfl, by have := HQ.out; have := T2.out; omega, by go_num, by go_num, _, rfl⟩
      ·have htn : t = np := by omega
       have HQ9 : Hid (q = szX (x.take (m + 1))) := hid (by
        have h1 := HQ.out
        rw [htn, List.take_of_length_le (by rw [NP.out]; omega)] at h1
        rw [TK.out, SO.out, h1, HB9.out]; omega)
       clear htn
       go_wp2_with (fail)
       go_roundg (n - (m + 1))
       case measure => have := HG.out; omega
       case rel => exact ⟨m + 1, q, by omega, rfl, HQ9.out, rfl, by go_num, _, rfl⟩
  ·have HA9 : Hid (a = szX x) := hid (by have := HA.out; rwa [List.take_of_length_le (by have := N.out; omega)] at this)
   have e := HA9.out
   clear HA9 HA
   go_wp2_with (fail)
   go_ret
   subst e
   exact ⟨rfl, _, rfl⟩
def tellO (m : Mk) (o : Opd) : Mk := if o.k = 1 then Z0D m o.n o.p else if o.k = 2 then Z0S m o.r o.s else Z1M m o.n
def ofM (x : List Opd) : Mk := x.foldl tellO Mk.new
theorem Z4C (x : List Opd) (o : Opd) : ofM (x ++ [o]) = tellO (ofM x) o := by unfold ofM; rw [List.foldl_append]; rfl
theorem MkB.tellO {m : Mk} {K S : Nat} (h : MkB m K S) {o : Opd} (hs : o.s.length ≤ S) (hp : o.p.length ≤ S) : MkB (tellO m o) (K + 2 * (1 + o.r.length)) S := by
 unfold Go.Proofs.YtfnkjcodcoehcaaGreatDoor.tellO
 split
 ·exact (h.retain o.n hp).mono (by omega) (Nat.le_refl _)
 ·split
  ·exact (h.insert o.r hs).mono (by omega) (Nat.le_refl _)
  ·exact (h.delete o.n).mono (by omega) (Nat.le_refl _)
def szN (x : List OpS) : Nat := (x.map (fun o => 1 + o.o.r.length)).sum
theorem Z3R (o : OpS) (x : List OpS) : szN (o :: x) = 1 + o.o.r.length + szN x := rfl
theorem Z9k (x : List OpS) : x.length ≤ szN x := by
 induction x with
 | nil => exact Nat.zero_le _
 | cons a x ih => rw [Z3R, List.length_cons]; omega
theorem Y2J {x : List OpS} {o : OpS} (h : o ∈ x) : o.o.r.length ≤ szN x := by
 induction x with
 | nil => cases h
 | cons a x ih =>
   rw [Z3R]
   rcases List.mem_cons.1 h with rfl | h
   ·omega
   ·have := ih h; omega
theorem Z5I (x : List OpS) (i : Nat) : szN (x.take i) ≤ szN x := Z2v (fun o : OpS => 1 + o.o.r.length) x i
theorem Y0e (x : List OpS) : szN x ≤ szX x := by
 induction x with
 | nil => exact Nat.zero_le _
 | cons a x ih =>
   have e : szX (a :: x) = szO a.o + szX x := rfl
   rw [Z3R, e]
   unfold szO; omega
theorem Y6n {S : Nat} : ∀ (x : List OpS) {m : Mk} {K : Nat}, MkB m K S → (∀ o ∈ x, o.o.s.length ≤ S ∧ o.o.p.length ≤ S) → MkB ((osOf x).foldl tellO m) (K + 2 * szN x) S
 | [], m, K, h, _ => h
 | o :: x, m, K, h, hs => by
   have h1 := h.tellO (hs o (by simp)).1 (hs o (by simp)).2
   have h2 := Y6n x h1 (fun z hz => hs z (List.mem_cons_of_mem _ hz))
   rw [Z3R]
   exact h2.mono (by omega) (Nat.le_refl _)
theorem Z2c {S : Nat} (x : List OpS) (hs : ∀ o ∈ x, o.o.s.length ≤ S ∧ o.o.p.length ≤ S) : MkB (ofM (osOf x)) (2 * szN x) S := by
 have := Y6n x (MkB.new S) hs
 rwa [Nat.zero_add] at this
theorem Y1l {m : Mk} {us : List Un} (h : Told m us) {o : Opd} (ho : isOp o) (hb : (us.length : Int) + o.n ≤ 4611686018427387904) (hb2 : us.length ≤ 4611686018427387904) : Told (tellO m o) (us ++ Z0h o) := by
 unfold tellO Z0h
 rcases Z0x ho with hk | hk | hk
 ·rw [if_neg (by rw [hk]; decide), if_pos hk, if_pos hk]; exact h.insert _ _
 ·rw [if_neg (by rw [hk]; decide), if_neg (by rw [hk]; decide), if_neg (by rw [hk]; decide), if_neg (by rw [hk]; decide)]; exact h.delete _ hb hb2
 ·rw [if_pos hk, if_neg (by rw [hk]; decide), if_pos hk]; exact h.retain _ _ hb
theorem Z2g {us : List Un} : us.length ≤ Z0k us + Z0p us := by
 induction us with
 | nil => exact Nat.zero_le _
 | cons u us ih =>
   cases u with
   | ins r s => rw [Z1k, Z3a, List.length_cons]; omega
   | del => rw [Z07, Z2m, List.length_cons]; omega
   | ret p => rw [Z0Q, Z1O, List.length_cons]; omega
theorem Z6m : ∀ (x : List Opd) {m : Mk} {us : List Un}, Told m us → (∀ o ∈ x, isOp o) → us.length + (Z0d x).length ≤ 4000000000 → Told (x.foldl tellO m) (us ++ Z0d x)
 | [], m, us, h, _, _ => by rw [Z52, List.append_nil]; exact h
 | o :: x, m, us, h, hi, hb => by
   rw [Z1w, List.length_append] at hb
   have ho := hi o (by simp)
   have hn : o.n ≤ (Z0h o).length := by
    unfold Z0h
    rcases Z0x ho with hk | hk | hk
    ·obtain ⟨e, hr⟩ := Z13 ho hk
     rw [if_pos hk, e]
     show (0 : Int) ≤ _
     omega
    ·rw [if_neg (by rw [hk]; decide), if_neg (by rw [hk]; decide), List.length_replicate]; omega
    ·rw [if_neg (by rw [hk]; decide), if_pos hk, List.length_replicate]; omega
   have h1 := Y1l h ho (by omega) (by omega)
   have h2 := Z6m x h1 (fun z hz => hi z (List.mem_cons_of_mem _ hz)) (by rw [List.length_append]; omega)
   rw [List.append_assoc] at h2
   rw [Z1w]
   exact h2
theorem Y4s (x : List Opd) (hi : ∀ o ∈ x, isOp o) (hb : (Z0d x).length ≤ 4000000000) : Told (ofM x) (Z0d x) := by
 have := Z6m x Told.new hi (by simpa using hb)
 rwa [List.nil_append] at this
theorem Y5B {l : List Ky} {x : List OpS} {n a b : Int} (h : Z2E l x n a = 0) (hab : a ≤ b) : Z2E l x n b = 0 := by
 obtain ⟨h1, h2, h3, h4, h5, h6, h7⟩ := Z10 h
 exact Z6f h1 h2 (by omega) h4 h5 h6 (by omega)
theorem Y2K {l : List Ky} {x : List OpS} {n a b : Int} (h : Z2E l x n b = 0) (h2 : n ≤ a) (h3 : Z4a n x ≤ a) : Z2E l x n a = 0 := by
 obtain ⟨g1, g2, g3, g4, g5, g6, g7⟩ := Z10 h
 exact Z6f g1 g2 h2 g4 g5 g6 h3
theorem Z22 {l : List Ky} {x : List OpS} {d : List Cl} {a b : Int} (h : Z0F l x d a = 0) (hab : a ≤ b) : Z0F l x d b = 0 := by
 obtain ⟨h1, h2⟩ := Z1T h
 exact Z3d h1 (Y5B h2 hab)
theorem Y4t {x : List OpS} (hi : ∀ o ∈ x, isOp o.o) : Z0p (Z0d (osOf x)) ≤ szX x + Z0k (Z0d (osOf x)) := by
 induction x with
 | nil => exact Nat.zero_le _
 | cons o x ih =>
   have e : Z0d (osOf (o :: x)) = Z0h o.o ++ Z0d (osOf x) := rfl
   have e2 : szX (o :: x) = szO o.o + szX x := rfl
   rw [e, Z0E, Z0y, e2]
   have h1 := ih (fun z hz => hi z (List.mem_cons_of_mem _ hz))
   have h2 := Z9c (hi o (by simp))
   unfold szO
   omega
theorem Z9l (l : List Ky) (us : List Un) (d : List Cl) (n a : Nat) (hd : 1 ≤ d.length) (h1 : Z0k us ≤ d.length) (h2 : finU n a us = true) (h3 : n = a + d.length) : 1 ≤ (app l us d).length := by
 rcases List.eq_nil_or_concat d with rfl | ⟨t, c, rfl⟩
 ·simp at hd
 ·rw [List.concat_eq_append] at *
  obtain ⟨t', c', e, _⟩ := Z4v l us t c n a (by simpa using h1) h2 (by simpa using h3)
  rw [e]; simp
structure In (l : List Ky) (x : List OpS) (d : List Cl) (most : Int) (N : Nat) : Prop where
 n : N ≤ 10000
 le : (N : Int) ≤ most
 at_ : Z0F l x d (N : Int) = 0
 may : mayO l x = 0
 isop : ∀ o ∈ x, isOp o.o
 fit : FitU l (Z0d (osOf x)) d.length N
 mu : ∀ u ∈ Z0d (osOf x), mU l u
 len : (app l (Z0d (osOf x)) d).length ≤ d.length + szX x
 dn : d.length ≤ N
 an : (app l (Z0d (osOf x)) d).length ≤ N
 doc : mayD l d = 0
 ul : (Z0d (osOf x)).length ≤ 2 * d.length + szX x
theorem Z4D {l : List Ky} {x : List OpS} {d : List Cl} {most : Int} (hx : x.length ≤ 1048576) (hz : d.length + szX x ≤ 10000) (h : Z0F l x d most = 0) : ∃ N : Nat, In l x d most N := by
 obtain ⟨h1, h2⟩ := Z1T h
 obtain ⟨g1, g2, g3, g4, g5, g6, g7⟩ := Z10 h2
 obtain ⟨m1, m2, m3⟩ := Z02 g1
 obtain ⟨s1, s2⟩ := Z1a x (Z0O m1)
 have ht := Z1m m1 hx
 have hm := Z1A m1 hx
 have hl := Z5D (n := (d.length : Int)) m1 hx (by omega) (by omega) m2 m3
 have hs := Y4t (Z0O m1)
 rw [hl] at g7
 have hN : Z0F l x d ((max d.length (d.length + Z0p (Z0d (osOf x)) - Z0k (Z0d (osOf x))) : Nat) : Int) = 0 := Z3d h1 (Y2K h2 (by omega) (by rw [hl]; omega))
 obtain ⟨hg, hf⟩ := Z6X (most := max d.length (d.length + Z0p (Z0d (osOf x)) - Z0k (Z0d (osOf x)))) hx (by omega) (Z1T hN).2
 have hal := Z2j l (Z0d (osOf x)) d hf.t
 have hul := Z2g (us := Z0d (osOf x))
 exact ⟨_, by omega, by omega, hN, g1, Z0O m1, hf, Z43 m1, by omega, by omega, by have := hf.m; omega, h1, by have := hf.t; omega⟩
theorem In.rise {l : List Ky} {x : List OpS} {d : List Cl} {most : Int} {N : Nat} (h : In l x d most N) : ∀ c ∈ d, Z1H c.s = true := fun c hc =>
 (Z00 ((Z3c.1 h.doc).2.1 c hc).2.1).2.1
theorem Y2L {l : List Ky} {z : List OpS} {us : List Un} {d : List Cl} {N : Nat} (hz : osOf z = mkU us) (hb : z.length ≤ 1048576) (hd : mayD l d = 0) (hf : FitU l us d.length N) (hN : N ≤ 536870912) {most : Int} (hm : (N : Int) ≤ most) :
 Z0F l z d most = 0 ∧ Z0F l z d (N : Int) = 0 ∧ app l (Z0d (osOf z)) d = app l us d := by
 obtain ⟨h1, h2⟩ := Z9i hz hb (by omega) hd hf
 exact ⟨Z22 h1 hm, h1, h2⟩
theorem Z7J (x : List OpS) : x.length ≤ szX x := by
 induction x with
 | nil => exact Nat.zero_le _
 | cons a x ih =>
   show _ ≤ szO a.o + szX x
   unfold szO
   rw [List.length_cons]; omega
def sumX (L : List SX) : Nat := (L.map (fun s => szX s.l)).sum
theorem Z4c {σ : Type} {f : σ → OpS → σ} (hf : ∀ a o o', o.o = o'.o → f a o = f a o') : ∀ (x y : List OpS) (a : σ), osOf x = osOf y → x.foldl f a = y.foldl f a
 | [], [], a, _ => rfl
 | [], o :: y, a, h => by simp [osOf] at h
 | o :: x, [], a, h => by simp [osOf] at h
 | o :: x, o' :: y, a, h => by
   unfold osOf at h
   rw [List.map_cons, List.map_cons, List.cons.injEq] at h
   rw [List.foldl_cons, List.foldl_cons, hf a o o' h.1]
   exact Z4c hf x y _ h.2
theorem Y4u {l : List Ky} {x y : List OpS} (h : osOf x = osOf y) : mayO l x = mayO l y := by
 have e1 : x.foldl (Z01 l) (false, 0) = y.foldl (Z01 l) (false, 0) := Z4c (fun a o o' h => by unfold Z01; rw [h]) x y _ h
 have e2 : Z0Z x = Z0Z y := Z4c (fun a o o' h => by unfold Z1p; rw [h]) x y _ h
 have e3 : Z1i x = Z1i y := Z4c (fun a o o' h => by unfold Z1L; rw [h]) x y _ h
 unfold mayO
 rw [e1, e2, e3]
theorem Z8s {l : List Ky} {x y : List OpS} {d : List Cl} {most : Int} (h : osOf x = osOf y) : Z0F l x d most = Z0F l y d most := by
 have e0 : mayO l x = mayO l y := Y4u h
 have e2 : Z0Z x = Z0Z y := Z4c (fun a o o' h => by unfold Z1p; rw [h]) x y _ h
 have e3 : Z1i x = Z1i y := Z4c (fun a o o' h => by unfold Z1L; rw [h]) x y _ h
 have e4 : Z2t (d.length : Int) x = Z2t (d.length : Int) y := by
  unfold Z2t
  rw [Z4c (fun a o o' h => by unfold Z0z; rw [h]) x y _ h]
 have e5 : Z1G l x = Z1G l y := by
  have : ∀ z : List OpS, Z1G l z = (osOf z).all (fun o => Z1F l o) := fun z => by unfold Z1G osOf; rw [List.all_map]; rfl
  rw [this, this, h]
 unfold Z0F Z2E Z4a
 rw [e0, e2, e3, e4, e5]
theorem Z64 {x y : List OpS} (h : osOf x = osOf y) : szX x = szX y := by
 have : ∀ z : List OpS, szX z = ((osOf z).map szO).sum := fun z => by unfold szX osOf; rw [List.map_map]; rfl
 rw [this, this, h]
theorem Z8t {x y : List OpS} (h : osOf x = osOf y) : x.length = y.length := by
 have := congrArg List.length h
 unfold osOf at this
 rwa [List.length_map, List.length_map] at this
theorem Y6o {P : Opd → Prop} {x y : List OpS} (h : osOf x = osOf y) (hy : ∀ o ∈ y, P o.o) : ∀ o ∈ x, P o.o := fun o ho => by
 have hm : o.o ∈ osOf x := by unfold osOf; exact List.mem_map_of_mem ho
 rw [h] at hm
 obtain ⟨z, hz, e⟩ := List.mem_map.1 hm
 rw [← e]; exact hy z hz
theorem Y2M {w : World} {A : Option Addr} {n c : Nat} {x : List OpS} (h : OpsAt w A n x) : Calls Tryz.prog 32 #[.slice A n c] w (Y6m (osOf x) w) := by
 refine (Z21 A n c x w h.len h.rd (by have := h.b; omega) (fun o ho => by obtain ⟨_, _, a, b, c⟩ := h.ok o ho; omega)).mono ?_
 rintro e w' ⟨A', c', z, he, hz, ho, hp, y⟩
 obtain ⟨k1, k2⟩ := Z3f ho
 exact ⟨A', c', z, he, hz, ⟨⟨Z9g ho hp, rfl, Y6o hz h.ok, by rw [Z8t hz, ← h.len]; exact h.b⟩, k1, k2, fun o hm => by obtain ⟨g, hg⟩ := hp o hm; exact Z7I hg⟩, y⟩
def Z6n (q : List Ch) (k : Int) : Bool := q.any (fun d => d.key == k)
def Z30 (p q : List Ch) : List Ch := p.filter (fun c => !Z6n q c.key)
theorem Y2N (p : List Ch) (k : Int) : Z6n p k = (lk Ch.key p k).isSome := by
 cases h : (lk Ch.key p k).isSome with
 | true =>
   obtain ⟨c, hc, hk⟩ := (Z78 Ch.key).1 h
   exact List.any_eq_true.2 ⟨c, hc, by simpa using hk⟩
 | false =>
   refine List.any_eq_false.2 fun c hc hk => ?_
   have : (lk Ch.key p k).isSome = true := (Z78 Ch.key).2 ⟨c, hc, by simpa using hk⟩
   rw [h] at this; cases this
theorem Y2O {p q : List Ch} (hp : Z1W p = true) : Z1W (Z30 p q) = true := by
 rw [Z1d] at *
 exact hp.filter Ch.key _
theorem Y4v {a : List At} {p q : List Ch} (ha : Z1H a = true) (hp : Z1W p = true) (hq : Z1W q = true) : Z04 (Z30 q p) (Z04 p a) = Z04 p (Z04 q a) := by
 have hl := Y2O (q := p) hq
 rw [Z1c] at ha
 rw [Z1d] at hp hq hl
 obtain ⟨a1, a2, _⟩ := Z1Z hp ha
 obtain ⟨b1, b2, _⟩ := Z1Z hl a1
 obtain ⟨c1, c2, _⟩ := Z1Z hq ha
 obtain ⟨d1, d2, _⟩ := Z1Z hp c1
 refine Y1W At.key b1 d1 fun k => ?_
 rw [b2, a2, d2, c2]
 have e : lk Ch.key (Z30 q p) k = (lk Ch.key q k).filter (fun c => !Z6n p c.key) := Z6c Ch.key hq _ k
 rw [e]
 cases hc : lk Ch.key q k with
 | none => cases lk Ch.key p k <;> rfl
 | some c =>
   have hck := Z77 Ch.key hc
   simp only [Option.filter, hck, Y2N]
   cases hd : lk Ch.key p k with
   | none => simp; rfl
   | some d => simp [Z2P]
def Z0n : Un → Bool
 | .ins _ _ => true
 | _ => false
def Z2l (first : Bool) (q p : List Ch) : List Ch := if first = true then Z30 q p else q
def traU (first : Bool) : List Un → List Un → List Un
 | _, [] => []
 | us, .ins r s :: vs => if first = true then List.replicate (us.takeWhile Z0n).length (.ret []) ++ .ins r s :: traU first (us.dropWhile Z0n) vs else .ins r s :: traU first us vs
 | us, .del :: vs => List.replicate (us.takeWhile Z0n).length (.ret []) ++ (match us.dropWhile Z0n with
   | [] => .del :: traU first [] vs
   | .ret _ :: us' => .del :: traU first us' vs
   | _ :: us' => traU first us' vs)
 | us, .ret q :: vs => List.replicate (us.takeWhile Z0n).length (.ret []) ++ (match us.dropWhile Z0n with
   | [] => .ret (Z2l first q []) :: traU first [] vs
   | .ret p :: us' => .ret (Z2l first q p) :: traU first us' vs
   | _ :: us' => traU first us' vs)
section
variable (f : Bool) (us vs : List Un) (r : Int) (s : List At) (r' : Int) (s' : List At) (p q : List Ch)
theorem Z2d : traU f us [] = [] := by unfold traU; rfl
theorem Y2P : traU true (.ins r s :: us) (.ins r' s' :: vs) = .ret [] :: traU true us (.ins r' s' :: vs) := by rw [traU, traU, if_pos rfl, if_pos rfl]; rfl
theorem Y2Q : traU f (.ins r s :: us) (.del :: vs) = .ret [] :: traU f us (.del :: vs) := by rw [traU, traU]; rfl
theorem Y2R : traU f (.ins r s :: us) (.ret q :: vs) = .ret [] :: traU f us (.ret q :: vs) := by rw [traU, traU]; rfl
theorem Y2S : traU false us (.ins r s :: vs) = .ins r s :: traU false us vs := by rw [traU, if_neg (by decide)]
theorem Y2T : traU f [] (.ins r s :: vs) = .ins r s :: traU f [] vs := by
 rw [traU]
 cases f with
 | true => rw [if_pos rfl]; rfl
 | false => rw [if_neg (by decide)]
theorem Y2U : traU f (.del :: us) (.ins r s :: vs) = .ins r s :: traU f (.del :: us) vs := by
 rw [traU]
 cases f with
 | true => rw [if_pos rfl]; rfl
 | false => rw [if_neg (by decide)]
theorem Y2V : traU f (.ret p :: us) (.ins r s :: vs) = .ins r s :: traU f (.ret p :: us) vs := by
 rw [traU]
 cases f with
 | true => rw [if_pos rfl]; rfl
 | false => rw [if_neg (by decide)]
theorem Y5C : traU f [] (.del :: vs) = .del :: traU f [] vs := by rw [traU]; rfl
theorem Y5D : traU f [] (.ret q :: vs) = .ret q :: traU f [] vs := by
 rw [traU]
 have : Z2l f q [] = q := by unfold Z2l; split; exact List.filter_eq_self.2 (fun c _ => rfl); rfl
 show [] ++ .ret (Z2l f q []) :: traU f [] vs = _
 rw [this]; rfl
theorem Z5a : traU f (.del :: us) (.del :: vs) = traU f us vs := by rw [traU]; rfl
theorem Z5b : traU f (.del :: us) (.ret q :: vs) = traU f us vs := by rw [traU]; rfl
theorem Z5c : traU f (.ret p :: us) (.del :: vs) = .del :: traU f us vs := by rw [traU]; rfl
theorem Z5d : traU f (.ret p :: us) (.ret q :: vs) = .ret (Z2l f q p) :: traU f us vs := by rw [traU]; rfl
end
theorem Z1Q (f : Bool) : ∀ vs, traU f [] vs = vs
 | [] => Z2d f []
 | .ins r s :: vs => by rw [Y2T, Z1Q f vs]
 | .del :: vs => by rw [Y5C, Z1Q f vs]
 | .ret q :: vs => by rw [Y5D, Z1Q f vs]
theorem Y2W {l : List Ky} {b : Bool} {p q : List Ch} (hp : Z1W p = true) (hq : Z1W q = true) : Z1t l b (Z30 q p) = Z30 (Z1t l b q) (Z1t l b p) := by
 unfold Z1t Z30
 rw [List.filter_filter, List.filter_filter]
 refine List.filter_congr fun c hc => ?_
 cases hk : Z1q l b c.key with
 | false => simp
 | true =>
   simp only [Bool.true_and, Bool.and_true]
   congr 1
   unfold Z6n
   rw [List.any_filter]
   congr 1
   funext x
   by_cases hx : x.key = c.key
   ·simp [hx, hk]
   ·simp [hx]
theorem Y4w {l : List Ky} {c : Cl} {p q : List Ch} (hp : mayP l p = 0) (hq : mayP l q = 0) (hs : Z1H c.s = true) : actC l (actC l c p) (Z30 q p) = actC l (actC l c q) p := by
 have p1 := (Z0U hp).2.1
 have q1 := (Z0U hq).2.1
 have p2 : Z1W (Z1t l (c.r == 10) p) = true := Z1d.2 (Z9U (Z1d.1 p1))
 have q2 : Z1W (Z1t l (c.r == 10) q) = true := Z1d.2 (Z9U (Z1d.1 q1))
 show (⟨c.r, Z04 (Z1t l (c.r == 10) (Z30 q p)) (Z04 (Z1t l (c.r == 10) p) c.s)⟩ : Cl) = ⟨c.r, Z04 (Z1t l (c.r == 10) p) (Z04 (Z1t l (c.r == 10) q) c.s)⟩
 rw [Y2W p1 q1, Y4v hs p2 q2]
theorem Z35 {P : Un → Prop} {u : Un} {us : List Un} (h : ∀ x ∈ u :: us, P x) : ∀ x ∈ us, P x := fun x hx => h x (List.mem_cons_of_mem _ hx)
end Go.Proofs.YtfnkjcodcoehcaaGreatDoor
