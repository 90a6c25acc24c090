/- Merged texts: Copy15, OpGreat, OpSize, NormLaw, WholeLaw, RoundLaw, SumX, DoesKit2. -/
import Derived.Deep.RegionHeld3
import Derived.Deep.RegionHeldLaw
import Derived.Test.YtfnkjcodcoehcaaGreatDoorR22
import Derived.Test.YtfnkjcodcoehcaaGreatDoorR23
import Derived.Test.YtfnkjcodcoehcaaGreatDoorR15
import Derived.Test.YtfnkjcodcoehcaaGreatDoorR21
import Derived.Test.YtfnkjcodcoehcaaGreatDoorR24
namespace Go.Proofs.YtfnkjcodcoehcaaGreatDoor
open Go.RowKit
set_option linter.unusedVariables false
set_option linter.unusedSimpArgs false

theorem Below.grown0 {w w1 w2 : World} (h : Below w.heap.size w w1) (hg : w1.grownBy w2 none) : Below w.heap.size w w2 := h.grown hg h.size (fun k hk => by cases hk)

/-- one op copied and appended -/
theorem copy15_step {w wr wb5 w5 w6 w7 wc w9 : World} {ov v9 : Value} {D : List OpS} {x' : OpS} {O : Obj} (y : Below w.heap.size w wr) (yb : Below wr.heap.size wr wb5)
    (how : OwOs wr w.heap.size ov D) (hp : ∀ x ∈ D, ∀ g, wb ov = some g → PartN wr w.heap.size g x)
    (o5 : OwI32 w5 wb5.heap.size (.slice x'.Ar x'.o.r.length x'.cr) x'.o.r) (z5 : Below w5.heap.size w5 wc)
    (o6 : OwAt w6 wb5.heap.size (.slice x'.As x'.o.s.length x'.cs) x'.o.s) (z6 : Below w6.heap.size w6 wc)
    (o7 : OwCh w7 wb5.heap.size (.slice x'.Ap x'.o.p.length x'.cp) x'.o.p) (z7 : Below w7.heap.size w7 wc)
    (yw : Below wb5.heap.size wb5 wc) (o9 : OwOs w9 w.heap.size v9 (D ++ [x'])) (g9 : (wc.alloc O).grownBy w9 (wb ov))
    (hv : v9 = ov ∧ w9 = wc.alloc O ∨ wb v9 = wb ov ∨ wb v9 = some (wc.alloc O).heap.size) :
    (∀ x ∈ D ++ [x'], ∀ g, wb v9 = some g → PartN w9 w.heap.size g x) ∧ Below w.heap.size w w9 := by
  have s0 := y.size
  have s1 := yb.size
  have s2 := yw.size
  have yc := ext_trans yb yw
  have ya := ext_trans yc (ext_alloc wc O)
  have hvw : ∀ g, wb v9 = some g → wb ov = some g ∨ wc.heap.size ≤ g := fun g hg => by
    rcases hv with ⟨h, _⟩ | h | h
    · subst h; exact .inl hg
    · exact .inl (h ▸ hg)
    · rw [h] at hg; injection hg with hg; have : (wc.alloc O).heap.size = wc.heap.size + 1 := by simp
      exact .inr (by omega)
  have kb : ∀ k, k < wc.heap.size → wb ov ≠ some k → w9.heap[k]? = wc.heap[k]? := fun k hk hne =>
    (g9.block k (Nat.lt_of_lt_of_le hk (ext_alloc wc O).size) (fun e => hne e.symm)).trans ((ext_alloc wc O).block k hk)
  have hov : ∀ g, wb ov = some g → g < wr.heap.size := fun g hg => (how.wb_lt g hg).2
  refine ⟨fun x hx g hg => ?_, ?_⟩
  · rcases List.mem_append.1 hx with hx | hx
    · have part : ∀ {α : Type} {enc : α → List Value} {size : Nat} {e : TypeId} {v : Value} {l : List α}, Ow enc size e wr w.heap.size v l → (∀ b, wb ov = some b → wb v ≠ some b) → Ow enc size e w9 w.heap.size v l ∧ wb v ≠ some g := by
        intro α enc size e v l h hne
        refine ⟨h.keep fun k hk => ?_, fun e => ?_⟩
        · have hlt := (h.wb_lt k hk).2
          rw [kb k (Nat.lt_of_lt_of_le hlt yc.size) (fun e => hne k e hk)]
          exact yc.block k hlt
        · have hlt := (h.wb_lt g e).2
          rcases hvw g hg with h1 | h1
          · exact hne g h1 e
          · have := yc.size; omega
      have q : ∀ b, wb ov = some b → PartN wr w.heap.size b x := fun b hb => hp x hx b hb
      by_cases hb : ∃ b, wb ov = some b
      · obtain ⟨b, hb⟩ := hb
        have p := q b hb
        exact ⟨part p.1.1 (fun b' hb' => (q b' hb').1.2), part p.2.1.1 (fun b' hb' => (q b' hb').2.1.2), part p.2.2.1 (fun b' hb' => (q b' hb').2.2.2)⟩
      · exfalso
        have hpos : 0 < D.length := List.length_pos_of_mem hx
        obtain ⟨A', c', rfl, hc, _⟩ := how.form
        have hA : ∃ g, A' = some ⟨g, 0, none⟩ := by obtain ⟨g, cur, hA, _⟩ := how.row hpos; exact ⟨g, hA⟩
        obtain ⟨b, rfl⟩ := hA
        cases c' with
        | zero => omega
        | succ c' => exact hb ⟨b, rfl⟩
    · simp at hx
      subst hx
      have part : ∀ {α : Type} {enc : α → List Value} {size : Nat} {e : TypeId} {v : Value} {l : List α} {wk : World}, Ow enc size e wk wb5.heap.size v l → Below wk.heap.size wk wc → Ow enc size e w9 w.heap.size v l ∧ wb v ≠ some g := by
        intro α enc size e v l wk h z
        have hlt : ∀ k, wb v = some k → wb5.heap.size ≤ k ∧ k < wc.heap.size := fun k hk => ⟨(h.wb_lt k hk).1, Nat.lt_of_lt_of_le (h.wb_lt k hk).2 z.size⟩
        refine ⟨((h.below z (Nat.le_refl _)).base_le (by omega)).keep fun k hk => kb k (hlt k hk).2 (fun e => by have := hov k e; have := (hlt k hk).1; omega), fun e => ?_⟩
        have h2 := hlt g e
        rcases hvw g hg with h1 | h1
        · have := hov g h1; omega
        · omega
      exact ⟨part o5 z5, part o6 z6, part o7 z7⟩
  · have yy := ext_trans y ya
    exact yy.grown g9 yy.size (fun k hk => (how.wb_lt k hk).1)
set_option maxRecDepth 100000 in
set_option maxHeartbeats 4000000 in
theorem copy15_any (A : Option Addr) (n c : Nat) (l : List OpS) (w : World) (hn : n = l.length) (h : RdOp w w.heap.size A l) (hb : n ≤ 100000000) (hs : ∀ x ∈ l, x.o.r.length ≤ 100000000 ∧ x.o.s.length ≤ 100000000 ∧ x.o.p.length ≤ 100000000) :
    Calls Tryz.prog 32 #[.slice A n c] w (NewOps (osOf l) w) := by
  have N := Lib.hid hn
  have HS := Lib.hid hs
  have HX := Lib.hid h
  clear hn hs h
  go_enter Tryz.func32, Tryz.ntmps32
  go_wp2_with (fail)
  go_loopg [3, 4] n (fun g ov iv wr => ∃ (m : Nat) (D : List OpS), m ≤ n ∧ g = n - m ∧ iv = .int .i64 (m : Int) ∧ osOf D = osOf (l.take m) ∧ D.length = m ∧ OwOs wr w.heap.size ov D ∧ Hid (∀ x ∈ D, ∀ g, wb ov = some g → PartN wr w.heap.size g x) ∧ Below w.heap.size w wr)
  case atStart => exact ⟨0, [], by omega, rfl, rfl, rfl, rfl, Ow.nil _ _, Lib.hid (fun x hx => by cases hx), Below.refl _ _⟩
  case round =>
    obtain ⟨m, D, hm, hg, rfl, hDo, hD, hown, HP, y⟩ := hrel
    have HG := Lib.hid hg
    clear hg
    by_cases hlt : m < n
    · have hl1 : m < l.length := by have := N.out; omega
      obtain ⟨ad, o, had0, hd1, hx1, hc0⟩ := (HX.out.ext y).1.elIn hl1
      subst had0
      have HM := Lib.hid hx1
      obtain ⟨g1, g2, g3⟩ := (HX.out.ext y).2 o (List.mem_of_getElem? hx1)
      obtain ⟨v3, v4, v5⟩ := HS.out o (List.mem_of_getElem? hx1)
      obtain ⟨⟨k, nn, r, s, p⟩, Ar, cr, As, cs, Ap, cp⟩ := o
      simp only at g1 g2 g3 v3 v4 v5
      have HC := Lib.hid hc0
      obtain ⟨r0, r1, r2, r3, r4⟩ := op_cells HC.out.2
      have G1 := Lib.hid g1
      have G2 := Lib.hid g2
      have G3 := Lib.hid g3
      have hw2 : IntKind.i64.wrap ((m:Int) + 1) = (m : Int) + 1 := IntWalk.i64_in _ (by omega)
      clear hc0 hd1 hx1 g1 g2 g3
      have yb := ext_alloc wr (.cells #[.int .u8 k, .int .i64 nn, .slice Ar r.length cr, .slice As s.length cs, .slice Ap p.length cp] 50)
      have hbx := heap_alloc_new wr (.cells #[.int .u8 k, .int .i64 nn, .slice Ar r.length cr, .slice As s.length cs, .slice Ap p.length cp] 50)
      have szb : (wr.alloc (.cells #[.int .u8 k, .int .i64 nn, .slice Ar r.length cr, .slice As s.length cs, .slice Ap p.length cp] 50)).heap.size = wr.heap.size + 1 := by simp
      have HOW := Lib.hid hown
      go_wp2_with (fail)
      generalize hwb : wr.alloc (.cells #[.int .u8 k, .int .i64 nn, .slice Ar r.length cr, .slice As s.length cs, .slice Ap p.length cp] 50) = wb at *
      have opb : ∀ {W : World}, Below wb.heap.size wb W → W.cell? ⟨wr.heap.size, 0, none⟩ = some (.int .u8 k) ∧ W.cell? ⟨wr.heap.size, 1, none⟩ = some (.int .i64 nn) ∧ W.cell? ⟨wr.heap.size, 2, none⟩ = some (.slice Ar r.length cr) ∧ W.cell? ⟨wr.heap.size, 3, none⟩ = some (.slice As s.length cs) ∧ W.cell? ⟨wr.heap.size, 4, none⟩ = some (.slice Ap p.length cp) := fun {W} yw => box_at ((yw.block _ (by omega)).trans hbx)
      have YW : Hid (Below wb.heap.size wb wb.drew) := Lib.hid (up_drew (Below.refl _ _))
      have YB : Hid (Below wb.heap.size wb wb) := Lib.hid (Below.refl _ _)
      have G1 := Lib.hid (G1.out.ext yb)
      have G2 := Lib.hid (G2.out.ext yb)
      have G3 := Lib.hid (G3.out.ext yb)
      have Cw := opb YB.out
      have keepS : ∀ W : World, Below wb.heap.size wb W → Below wb.heap.size wb W ∧ W.cell? ⟨wr.heap.size, 0, none⟩ = some (.int .u8 k) ∧ W.cell? ⟨wr.heap.size, 1, none⟩ = some (.int .i64 nn) ∧ W.cell? ⟨wr.heap.size, 2, none⟩ = some (.slice Ar r.length cr) ∧ W.cell? ⟨wr.heap.size, 3, none⟩ = some (.slice As s.length cs) ∧ W.cell? ⟨wr.heap.size, 4, none⟩ = some (.slice Ap p.length cp) := fun W z => ⟨z, opb z⟩
      go_region_held_law (fun w' => w'.cell? ⟨wr.heap.size, 0, none⟩ = some (.int .u8 k) ∧ w'.cell? ⟨wr.heap.size, 1, none⟩ = some (.int .i64 nn) ∧ w'.cell? ⟨wr.heap.size, 2, none⟩ = some (.slice Ar r.length cr) ∧ w'.cell? ⟨wr.heap.size, 3, none⟩ = some (.slice As s.length cs) ∧ w'.cell? ⟨wr.heap.size, 4, none⟩ = some (.slice Ap p.length cp)) (first | exact C9 | exact opb (by repeat (first | exact YW.out | exact YB.out | refine ext_trans ?_ (ext_alloc _ _) | refine up_drew ?_))) (first
        | (refine step_i32_0 (m := r) rfl (.tmp 21) (.tmp 23) (by rfl) ⟨_, rfl⟩ wb.heap.size _ Ar cr r.length (by rfl) rfl (G1.out.ext (by repeat (first | exact YW.out | exact YB.out | refine ext_trans ?_ (ext_alloc _ _) | refine up_drew ?_))) (by omega) (by exact ((by repeat (first | exact YW.out | exact YB.out | refine ext_trans ?_ (ext_alloc _ _) | refine up_drew ?_)) : Below wb.heap.size wb _).size) ?_
           intro vI32 w5 hoI32 hgrI32
           obtain ⟨A5, k5, hv5, _, _⟩ := hoI32.form
           subst hv5
           have OI32 := Lib.hid hoI32
           have YW : Hid (Below wb.heap.size wb w5) := Lib.hid (Below.grown0 (by repeat (first | exact YW.out | exact YB.out | refine ext_trans ?_ (ext_alloc _ _) | refine up_drew ?_)) hgrI32)
           have CI32 := opb YW.out
           try (have ZAt : Hid (Below w6.heap.size w6 w5) := Lib.hid (Below.grown0 (by repeat (first | exact ZAt.out | refine ext_trans ?_ (ext_alloc _ _) | refine up_drew ?_)) hgrI32))
           try (have ZCh : Hid (Below w7.heap.size w7 w5) := Lib.hid (Below.grown0 (by repeat (first | exact ZCh.out | refine ext_trans ?_ (ext_alloc _ _) | refine up_drew ?_)) hgrI32))
           have ZI32 : Hid (Below w5.heap.size w5 w5) := Lib.hid (Below.refl _ _)
           clear hoI32 hgrI32)
        | (refine step_at_0 (m := s) rfl (.tmp 25) (.tmp 27) (by rfl) ⟨_, rfl⟩ wb.heap.size _ As cs s.length (by rfl) rfl (G2.out.ext (by repeat (first | exact YW.out | exact YB.out | refine ext_trans ?_ (ext_alloc _ _) | refine up_drew ?_))) (by omega) (by exact ((by repeat (first | exact YW.out | exact YB.out | refine ext_trans ?_ (ext_alloc _ _) | refine up_drew ?_)) : Below wb.heap.size wb _).size) ?_
           intro vAt w6 hoAt hgrAt
           obtain ⟨A6, k6, hv6, _, _⟩ := hoAt.form
           subst hv6
           have OAt := Lib.hid hoAt
           have YW : Hid (Below wb.heap.size wb w6) := Lib.hid (Below.grown0 (by repeat (first | exact YW.out | exact YB.out | refine ext_trans ?_ (ext_alloc _ _) | refine up_drew ?_)) hgrAt)
           have CAt := opb YW.out
           try (have ZI32 : Hid (Below w5.heap.size w5 w6) := Lib.hid (Below.grown0 (by repeat (first | exact ZI32.out | refine ext_trans ?_ (ext_alloc _ _) | refine up_drew ?_)) hgrAt))
           try (have ZCh : Hid (Below w7.heap.size w7 w6) := Lib.hid (Below.grown0 (by repeat (first | exact ZCh.out | refine ext_trans ?_ (ext_alloc _ _) | refine up_drew ?_)) hgrAt))
           have ZAt : Hid (Below w6.heap.size w6 w6) := Lib.hid (Below.refl _ _)
           clear hoAt hgrAt)
        | (refine step_ch_0 (m := p) rfl (.tmp 29) (.tmp 31) (by rfl) ⟨_, rfl⟩ wb.heap.size _ Ap cp p.length (by rfl) rfl (G3.out.ext (by repeat (first | exact YW.out | exact YB.out | refine ext_trans ?_ (ext_alloc _ _) | refine up_drew ?_))) (by omega) (by exact ((by repeat (first | exact YW.out | exact YB.out | refine ext_trans ?_ (ext_alloc _ _) | refine up_drew ?_)) : Below wb.heap.size wb _).size) ?_
           intro vCh w7 hoCh hgrCh
           obtain ⟨A7, k7, hv7, _, _⟩ := hoCh.form
           subst hv7
           have OCh := Lib.hid hoCh
           have YW : Hid (Below wb.heap.size wb w7) := Lib.hid (Below.grown0 (by repeat (first | exact YW.out | exact YB.out | refine ext_trans ?_ (ext_alloc _ _) | refine up_drew ?_)) hgrCh)
           have CCh := opb YW.out
           try (have ZI32 : Hid (Below w5.heap.size w5 w7) := Lib.hid (Below.grown0 (by repeat (first | exact ZI32.out | refine ext_trans ?_ (ext_alloc _ _) | refine up_drew ?_)) hgrCh))
           try (have ZAt : Hid (Below w6.heap.size w6 w7) := Lib.hid (Below.grown0 (by repeat (first | exact ZAt.out | refine ext_trans ?_ (ext_alloc _ _) | refine up_drew ?_)) hgrCh))
           have ZCh : Hid (Below w7.heap.size w7 w7) := Lib.hid (Below.refl _ _)
           clear hoCh hgrCh)
        | (refine step_os (l := D) (m := [(⟨⟨k, nn, r, s, p⟩, A5, k5, A6, k6, A7, k7⟩ : OpS)]) rfl (.tmp 16) (.tmp 34) (by rfl) (by rfl) (HOW.out.below (ext_trans (ext_trans yb YW.out) (ext_alloc _ _)) (Nat.le_refl _)) _ _ 1 1 (by rfl) rfl (rd_one (enc := OpS.enc) (size := 5) w7 _ (⟨⟨k, nn, r, s, p⟩, A5, k5, A6, k6, A7, k7⟩ : OpS) rfl) (by simp only [List.length_singleton]; omega) (Nat.le_trans y.size (ext_trans (ext_trans yb YW.out) (ext_alloc _ _)).size) ?_
           intro v9 w9 ho9 hgr9 hw9
           have O9 := Lib.hid ho9
           have HW9 := Lib.hid hw9
           have HG9 := Lib.hid hgr9
           have C9 := box_at ((hgr9.block wr.heap.size (Nat.lt_of_lt_of_le (by omega : wr.heap.size < wb.heap.size) (ext_trans YW.out (ext_alloc _ _)).size) (fun e => by have := (HOW.out.wb_lt wr.heap.size e.symm).2; omega)).trans (((ext_trans YW.out (ext_alloc _ _)).block wr.heap.size (by omega)).trans hbx))
           clear ho9 hgr9 hw9))
      all_goals
        have r := copy15_step (x' := ⟨⟨k, nn, r, s, p⟩, A5, k5, A6, k6, A7, k7⟩) y yb HOW.out HP.out OI32.out ZI32.out OAt.out ZAt.out OCh.out ZCh.out YW.out O9.out HG9.out HW9.out
        have R1 := Lib.hid r.1
        have R2 := Lib.hid r.2
        clear r
        go_wp2_with (fail)
        go_roundg (n - (m + 1))
      all_goals first
        | (have := HG.out; omega)
        | (refine ⟨m + 1, D ++ [⟨⟨k, nn, r, s, p⟩, A5, k5, A6, k6, A7, k7⟩], by omega, rfl, by go_num, ?_, by simp [hD], O9.out, R1, R2.out⟩
           rw [List.take_add_one, HM.out]
           unfold osOf at hDo ⊢
           rw [List.map_append, List.map_append, hDo]; rfl)
    · have hml : m = n := by omega
      subst hml
      have HO := Lib.hid hown
      have HD := Lib.hid hD
      have HDO := Lib.hid hDo
      clear hown hD hDo
      obtain ⟨A1, k1, hv1, _, _⟩ := HO.out.form
      subst hv1
      go_wp2_with (fail)
      go_ret
      refine ⟨A1, k1, D, rfl, by rw [HDO.out, N.out, List.take_length], HO.out, fun x hx => ?_, y⟩
      have hpos : 0 < D.length := List.length_pos_of_mem hx
      obtain ⟨g, cur, hA, _⟩ := HO.out.row hpos
      subst hA
      have hc := (cap_own HO.out).1
      cases k1 with
      | zero => omega
      | succ k1 => exact ⟨g, HP.out x hx g rfl⟩
end Go.Proofs.YtfnkjcodcoehcaaGreatDoor
namespace Go.Proofs.YtfnkjcodcoehcaaGreatDoor
open Go.RowKit
set_option linter.unusedVariables false
set_option linter.unusedSimpArgs false

structure SX where
  A : Option Addr
  c : Nat
  l : List OpS
def SX.enc (s : SX) : List Value := [.slice s.A s.l.length s.c]
end Go.Proofs.YtfnkjcodcoehcaaGreatDoor
namespace Go.Proofs.YtfnkjcodcoehcaaGreatDoor
open Go.RowKit
set_option linter.unusedVariables false
set_option linter.unusedSimpArgs false

def szA (s : List At) : Nat := (s.map (fun a => a.v.s.size)).sum
def szC (p : List Ch) : Nat := (p.map (fun a => a.v.s.size)).sum
def szO (o : Opd) : Nat := 1 + o.r.length + o.s.length + o.p.length + szA o.s + szC o.p
def szX (x : List OpS) : Nat := (x.map (fun o => szO o.o)).sum
theorem sum_take1 {α : Type} (f : α → Nat) {l : List α} {i : Nat} {a : α} (h : l[i]? = some a) : ((l.take (i + 1)).map f).sum = ((l.take i).map f).sum + f a := by
  rw [List.take_add_one, h]; simp
theorem sum_take_le {α : Type} (f : α → Nat) (l : List α) (i : Nat) : ((l.take i).map f).sum ≤ (l.map f).sum := by
  conv => rhs; rw [← List.take_append_drop i l]
  rw [List.map_append, List.sum_append]; omega
theorem szX_mem {x : List OpS} {o : OpS} (h : o ∈ x) : szO o.o ≤ szX x := by
  induction x with
  | nil => cases h
  | cons a x ih =>
    show _ ≤ szO a.o + szX x
    rcases List.mem_cons.1 h with rfl | h
    · omega
    · have := ih h; omega

set_option maxRecDepth 100000 in
set_option maxHeartbeats 1600000 in
theorem sizeX2_any (A : Option Addr) (n c : Nat) (x : List OpS) (w : World) (hn : n = x.length) (h : RdOp w w.heap.size A x) (hb : n ≤ 140737488355328) (hz : szX x ≤ 4611686018427387904) :
    Calls Tryz.prog 87 #[.slice A n c] w fun e w' => e = .returned (.int .i64 (szX x : Int)) ∧ ∃ d, w' = w.drewN d := by
  have N := Lib.hid hn
  have Z := Lib.hid hz
  clear hn hz
  go_enter Tryz.func87, Tryz.ntmps87
  go_wp2_with (fail)
  go_loopg [3, 4] n (fun g av iv wr => ∃ (m a : Nat), m ≤ n ∧ g = n - m ∧ a = szX (x.take m) ∧ av = .int .i64 (a : Int) ∧ iv = .int .i64 (m : Int) ∧ ∃ d, wr = w.drewN d)
  case atStart => exact ⟨0, 0, by omega, rfl, rfl, rfl, rfl, 0, rfl⟩
  case round =>
    obtain ⟨m, a, hm, hg, ha, rfl, rfl, d, rfl⟩ := hrel
    have HG := Lib.hid hg
    have HA := Lib.hid ha
    clear hg ha
    by_cases hlt : m < n
    · have hl1 : m < x.length := by have := N.out; omega
      obtain ⟨ad, o, had0, had, hd1, hx1, hc0⟩ := h.1.el hl1
      subst had0
      have hmem := List.mem_of_getElem? hx1
      obtain ⟨g1, g2, g3⟩ := h.2 o hmem
      have TK : Hid (szX (x.take (m + 1)) = a + szO o.o) := Lib.hid (by rw [HA.out]; exact sum_take1 (fun o : OpS => szO o.o) hx1)
      have TB : Hid (a + szO o.o ≤ 4611686018427387904) := Lib.hid (by rw [← TK.out]; exact Nat.le_trans (sum_take_le (fun o : OpS => szO o.o) x (m + 1)) Z.out)
      obtain ⟨⟨k, nn, r, s, p⟩, Ar, cr, As, cs, Ap, cp⟩ := o
      simp only at g1 g2 g3 TK TB
      obtain ⟨r0, r1, r2, r3, r4⟩ := op_cells hc0
      obtain ⟨nr, hnr⟩ : ∃ X, r.length = X := ⟨_, rfl⟩
      obtain ⟨ns, hns⟩ : ∃ X, s.length = X := ⟨_, rfl⟩
      obtain ⟨np, hnp⟩ : ∃ X, p.length = X := ⟨_, rfl⟩
      have SO : Hid (szO ⟨k, nn, r, s, p⟩ = 1 + nr + ns + np + szA s + szC p) := Lib.hid (by rw [← hnr, ← hns, ← hnp]; rfl)
      have NS := Lib.hid hns
      have NP := Lib.hid hnp
      have B0 : a + 1 + nr + ns + np ≤ 4611686018427387904 := by have := TB.out; rw [SO.out] at this; omega
      rw [hnr] at r2
      rw [hns] at r3
      rw [hnp] at r4
      have hw2 : IntKind.i64.wrap ((m:Int) + 1) = (m : Int) + 1 := IntWalk.i64_in _ (by omega)
      have e1 : IntKind.i64.wrap ((a:Int) + 1) = (a : Int) + 1 := IntWalk.i64_in _ (by omega)
      have e2 : IntKind.i64.wrap ((a:Int) + 1 + (nr : Int)) = (a : Int) + 1 + nr := IntWalk.i64_in _ (by omega)
      have e3 : IntKind.i64.wrap ((a:Int) + 1 + (nr : Int) + (ns : Int)) = (a : Int) + 1 + nr + ns := IntWalk.i64_in _ (by omega)
      have e4 : IntKind.i64.wrap ((a:Int) + 1 + (nr : Int) + (ns : Int) + (np : Int)) = (a : Int) + 1 + nr + ns + np := IntWalk.i64_in _ (by omega)
      clear hc0 hd1 hx1 hmem hns hnp hnr
      go_wp2_with (fail)
      go_quiet (fail)
      go_wp2_with (fail)
      clear e1 e2 e3
      go_loopg [3, 5] ns (fun g av iv wi => ∃ (j b : Nat), j ≤ ns ∧ g = ns - j ∧ b = a + 1 + nr + ns + np + szA (s.take j) ∧ av = .int .i64 (b : Int) ∧ iv = .int .i64 (j : Int) ∧ ∃ d, wi = w.drewN d)
      case atStart => exact ⟨0, a + 1 + nr + ns + np, by omega, rfl, rfl, by first | rfl | (go_num) | (simp only [e4]; rfl) | (congr 1), rfl, _, (by first | rfl | exact World.drewN_drewN _ _ _)⟩
      case round =>
        obtain ⟨j, b, hj, hg2, hbj, rfl, rfl, d2, rfl⟩ := hrel
        have HG2 := Lib.hid hg2
        have HB := Lib.hid hbj
        clear hg2 hbj e4
        by_cases hls : j < ns
        · obtain ⟨ad2, z, e2, _, _, hzj, hz⟩ := g2.el (i := j) (by have := NS.out; omega)
          subst e2
          have T2 : Hid (szA (s.take (j + 1)) = szA (s.take j) + z.v.s.size) := Lib.hid (sum_take1 (fun a : At => a.v.s.size) hzj)
          have T3 : Hid (szA (s.take (j + 1)) ≤ szA s) := Lib.hid (sum_take_le (fun a : At => a.v.s.size) s (j + 1))
          obtain ⟨z1, ⟨z2, z3, z4, z5⟩⟩ := z
          simp only at T2
          obtain ⟨s0, s1, s2, s3, s4⟩ := at_cells hz
          have hw3 : IntKind.i64.wrap ((j:Int) + 1) = (j : Int) + 1 := IntWalk.i64_in _ (by omega)
          have bnd : b + z5.size ≤ 4611686018427387904 := by
            have h1 := TB.out; have h2 := SO.out; have h3 := T2.out; have h4 := T3.out; have h5 := HB.out; omega
          have hw4 : IntKind.i64.wrap ((b:Int) + (z5.size : Int)) = (b : Int) + z5.size := IntWalk.i64_in _ (by omega)
          clear hz hzj
          go_wp2_with (fail)
          go_roundg (ns - (j + 1))
          case measure => have := HG2.out; omega
          case rel => exact ⟨j + 1, b + z5.size, by omega, rfl, by have := HB.out; have := T2.out; omega, by go_num, by go_num, _, rfl⟩
        · have hjn : j = ns := by omega
          have HB9 : Hid (b = a + 1 + nr + ns + np + szA s) := Lib.hid (by have := HB.out; rwa [hjn, List.take_of_length_le (by rw [NS.out]; omega)] at this)
          clear hjn
          go_wp2_with (fail)
          go_loopg [3, 6] np (fun g av iv wi => ∃ (j q : Nat), j ≤ np ∧ g = np - j ∧ q = b + szC (p.take j) ∧ av = .int .i64 (q : Int) ∧ iv = .int .i64 (j : Int) ∧ ∃ d, wi = w.drewN d)
          case atStart => exact ⟨0, b, by omega, rfl, rfl, rfl, rfl, _, rfl⟩
          case round =>
            obtain ⟨t, q, ht, hg2, hq, rfl, rfl, d2, rfl⟩ := hrel
            have HG3 := Lib.hid hg2
            have HQ := Lib.hid hq
            clear hg2 hq
            by_cases hls : t < np
            · obtain ⟨ad2, z, e2, _, _, hzj, hz⟩ := g3.el (i := t) (by have := NP.out; omega)
              subst e2
              have T2 : Hid (szC (p.take (t + 1)) = szC (p.take t) + z.v.s.size) := Lib.hid (sum_take1 (fun a : Ch => a.v.s.size) hzj)
              have T3 : Hid (szC (p.take (t + 1)) ≤ szC p) := Lib.hid (sum_take_le (fun a : Ch => a.v.s.size) p (t + 1))
              obtain ⟨z1, z6, ⟨z2, z3, z4, z5⟩⟩ := z
              simp only at T2
              obtain ⟨s0, s1, s2, s3, s4, s5⟩ := ch_cells hz
              have hw3 : IntKind.i64.wrap ((t:Int) + 1) = (t : Int) + 1 := IntWalk.i64_in _ (by omega)
              have bnd : q + z5.size ≤ 4611686018427387904 := by
                have h1 := TB.out; have h2 := SO.out; have h3 := T2.out; have h4 := T3.out; have h5 := HB9.out; have h6 := HQ.out; omega
              have hw4 : IntKind.i64.wrap ((q:Int) + (z5.size : Int)) = (q : Int) + z5.size := IntWalk.i64_in _ (by omega)
              clear hz hzj
              go_wp2_with (fail)
              go_roundg (np - (t + 1))
              case measure => have := HG3.out; omega
              case rel => exact ⟨t + 1, q + z5.size, by omega, rfl, by have := HQ.out; have := T2.out; omega, by go_num, by go_num, _, rfl⟩
            · have htn : t = np := by omega
              have HQ9 : Hid (q = szX (x.take (m + 1))) := Lib.hid (by
                have h1 := HQ.out
                rw [htn, List.take_of_length_le (by rw [NP.out]; omega)] at h1
                rw [TK.out, SO.out, h1, HB9.out]; omega)
              clear htn
              go_wp2_with (fail)
              go_roundg (n - (m + 1))
              case measure => have := HG.out; omega
              case rel => exact ⟨m + 1, q, by omega, rfl, HQ9.out, rfl, by go_num, _, rfl⟩
    · have HA9 : Hid (a = szX x) := Lib.hid (by have := HA.out; rwa [List.take_of_length_le (by have := N.out; omega)] at this)
      have e := HA9.out
      clear HA9 HA
      go_wp2_with (fail)
      go_ret
      subst e
      exact ⟨rfl, _, rfl⟩
end Go.Proofs.YtfnkjcodcoehcaaGreatDoor
namespace Go.Proofs.YtfnkjcodcoehcaaGreatDoor
set_option linter.unusedVariables false
set_option linter.unusedSimpArgs false

theorem units_length {us : List Un} : us.length ≤ takesU us + makesU us := by
  induction us with
  | nil => exact Nat.zero_le _
  | cons u us ih =>
    cases u with
    | ins r s => rw [takesU_i, makesU_i, List.length_cons]; omega
    | del => rw [takesU_d, makesU_d, List.length_cons]; omega
    | ret p => rw [takesU_r, makesU_r, List.length_cons]; omega
end Go.Proofs.YtfnkjcodcoehcaaGreatDoor
namespace Go.Proofs.YtfnkjcodcoehcaaGreatDoor
set_option linter.unusedVariables false
set_option linter.unusedSimpArgs false

theorem fits_down {l : List Ky} {x : List OpS} {n a b : Int} (h : fitsO l x n b = 0) (h2 : n ≤ a) (h3 : longO n x ≤ a) : fitsO l x n a = 0 := by
  obtain ⟨g1, g2, g3, g4, g5, g6, g7⟩ := fits_zero h
  exact zero_fits g1 g2 h2 g4 g5 g6 h3
theorem makes_sz {x : List OpS} (hi : ∀ o ∈ x, isOp o.o) : makesU (units (osOf x)) ≤ szX x + takesU (units (osOf x)) := by
  induction x with
  | nil => exact Nat.zero_le _
  | cons o x ih =>
    have e : units (osOf (o :: x)) = unitsO o.o ++ units (osOf x) := rfl
    have e2 : szX (o :: x) = szO o.o + szX x := rfl
    rw [e, makesU_append, takesU_append, e2]
    have h1 := ih (fun z hz => hi z (List.mem_cons_of_mem _ hz))
    have h2 := makes_small (hi o (by simp))
    unfold szO
    omega
end Go.Proofs.YtfnkjcodcoehcaaGreatDoor
namespace Go.Proofs.YtfnkjcodcoehcaaGreatDoor
set_option linter.unusedVariables false
set_option linter.unusedSimpArgs false

theorem FitU.up {l : List Ky} {us : List Un} {n a b : Nat} (h : FitU l us n a) (hab : a ≤ b) : FitU l us n b :=
  ⟨h.v, h.t, h.n1, by have := h.nm; omega, h.f, by have := h.m; omega, h.tb, h.mb⟩
/-- a delta that is applied, of no great size -/
structure In (l : List Ky) (x : List OpS) (d : List Cl) (most : Int) (N : Nat) : Prop where
  n : N ≤ 10000
  le : (N : Int) ≤ most
  at_ : applyN l x d (N : Int) = 0
  may : mayO l x = 0
  isop : ∀ o ∈ x, isOp o.o
  fit : FitU l (units (osOf x)) d.length N
  mu : ∀ u ∈ units (osOf x), mU l u
  len : (app l (units (osOf x)) d).length ≤ d.length + szX x
  dn : d.length ≤ N
  an : (app l (units (osOf x)) d).length ≤ N
  doc : mayD l d = 0
  ul : (units (osOf x)).length ≤ 2 * d.length + szX x
theorem apply_in {l : List Ky} {x : List OpS} {d : List Cl} {most : Int} (hx : x.length ≤ 1048576) (hz : d.length + szX x ≤ 10000) (h : applyN l x d most = 0) : ∃ N : Nat, In l x d most N := by
  obtain ⟨h1, h2⟩ := applyN_zero h
  obtain ⟨g1, g2, g3, g4, g5, g6, g7⟩ := fits_zero h2
  obtain ⟨m1, m2, m3⟩ := mayO_zero g1
  obtain ⟨s1, s2⟩ := sums_units x (good_isOp m1)
  have ht := takes_sum m1 hx
  have hm := makes_sum m1 hx
  have hl := longO_is (n := (d.length : Int)) m1 hx (by omega) (by omega) m2 m3
  have hs := makes_sz (good_isOp m1)
  rw [hl] at g7
  have hN : applyN l x d ((max d.length (d.length + makesU (units (osOf x)) - takesU (units (osOf x))) : Nat) : Int) = 0 := zero_applyN h1 (fits_down h2 (by omega) (by rw [hl]; omega))
  obtain ⟨hg, hf⟩ := fits_units (most := max d.length (d.length + makesU (units (osOf x)) - takesU (units (osOf x)))) hx (by omega) (applyN_zero hN).2
  have hal := app_len l (units (osOf x)) d hf.t
  have hul := units_length (us := units (osOf x))
  exact ⟨_, by omega, by omega, hN, g1, good_isOp m1, hf, good_mU m1, by omega, by omega, by have := hf.m; omega, h1, by have := hf.t; omega⟩
/-- what is made of it may be -/
theorem In.out {l : List Ky} {x : List OpS} {d : List Cl} {most : Int} {N : Nat} (h : In l x d most N) (hl : l.length ≤ 64) : mayD l (app l (units (osOf x)) d) = 0 :=
  app_mayD hl h.doc h.fit (by have := h.fit.m; have := h.n; have := h.fit.t; omega)
theorem In.rise {l : List Ky} {x : List OpS} {d : List Cl} {most : Int} {N : Nat} (h : In l x d most N) : ∀ c ∈ d, riseA c.s = true := fun c hc =>
  (mayS_zero ((mayD_iff.1 h.doc).2.1 c hc).2.1).2.1
end Go.Proofs.YtfnkjcodcoehcaaGreatDoor
namespace Go.Proofs.YtfnkjcodcoehcaaGreatDoor
set_option linter.unusedVariables false
set_option linter.unusedSimpArgs false

theorem szX_len (x : List OpS) : x.length ≤ szX x := by
  induction x with
  | nil => exact Nat.zero_le _
  | cons a x ih =>
    show _ ≤ szO a.o + szX x
    unfold szO
    rw [List.length_cons]; omega
def sumX (L : List SX) : Nat := (L.map (fun s => szX s.l)).sum
end Go.Proofs.YtfnkjcodcoehcaaGreatDoor
namespace Go.Proofs.YtfnkjcodcoehcaaGreatDoor
open Go.RowKit
set_option linter.unusedVariables false
set_option linter.unusedSimpArgs false

theorem fold_os {σ : Type} {f : σ → OpS → σ} (hf : ∀ a o o', o.o = o'.o → f a o = f a o') : ∀ (x y : List OpS) (a : σ), osOf x = osOf y → x.foldl f a = y.foldl f a
  | [], [], a, _ => rfl
  | [], o :: y, a, h => by simp [osOf] at h
  | o :: x, [], a, h => by simp [osOf] at h
  | o :: x, o' :: y, a, h => by
    unfold osOf at h
    rw [List.map_cons, List.map_cons, List.cons.injEq] at h
    rw [List.foldl_cons, List.foldl_cons, hf a o o' h.1]
    exact fold_os hf x y _ h.2
theorem mayO_os2 {l : List Ky} {x y : List OpS} (h : osOf x = osOf y) : mayO l x = mayO l y := by
  have e1 : x.foldl (mayStep l) (false, 0) = y.foldl (mayStep l) (false, 0) := fold_os (fun a o o' h => by unfold mayStep; rw [h]) x y _ h
  have e2 : takesP x = takesP y := fold_os (fun a o o' h => by unfold takeStep; rw [h]) x y _ h
  have e3 : makesP x = makesP y := fold_os (fun a o o' h => by unfold makeStep; rw [h]) x y _ h
  unfold mayO
  rw [e1, e2, e3]
theorem applyN_os {l : List Ky} {x y : List OpS} {d : List Cl} {most : Int} (h : osOf x = osOf y) : applyN l x d most = applyN l y d most := by
  have e0 : mayO l x = mayO l y := mayO_os2 h
  have e2 : takesP x = takesP y := fold_os (fun a o o' h => by unfold takeStep; rw [h]) x y _ h
  have e3 : makesP x = makesP y := fold_os (fun a o o' h => by unfold makeStep; rw [h]) x y _ h
  have e4 : finalP (d.length : Int) x = finalP (d.length : Int) y := by
    unfold finalP
    rw [fold_os (fun a o o' h => by unfold finalStep; rw [h]) x y _ h]
  have e5 : placeP l x = placeP l y := by
    have : ∀ z : List OpS, placeP l z = (osOf z).all (fun o => placeO l o) := fun z => by unfold placeP osOf; rw [List.all_map]; rfl
    rw [this, this, h]
  unfold applyN fitsO longO
  rw [e0, e2, e3, e4, e5]
theorem szX_os {x y : List OpS} (h : osOf x = osOf y) : szX x = szX y := by
  have : ∀ z : List OpS, szX z = ((osOf z).map szO).sum := fun z => by unfold szX osOf; rw [List.map_map]; rfl
  rw [this, this, h]
theorem len_os {x y : List OpS} (h : osOf x = osOf y) : x.length = y.length := by
  have := congrArg List.length h
  unfold osOf at this
  rwa [List.length_map, List.length_map] at this
theorem all_os {P : Opd → Prop} {x y : List OpS} (h : osOf x = osOf y) (hy : ∀ o ∈ y, P o.o) : ∀ o ∈ x, P o.o := fun o ho => by
  have hm : o.o ∈ osOf x := by unfold osOf; exact List.mem_map_of_mem ho
  rw [h] at hm
  obtain ⟨z, hz, e⟩ := List.mem_map.1 hm
  rw [← e]; exact hy z hz
theorem setCell_up2 {B : Nat} {w0 w : World} (h : Below B w0 w) {g : Nat} (hg : B ≤ g) (j : Nat) (u : Value) : Below B w0 (w.setCell ⟨g, j, none⟩ u) := h.setCell (p := ⟨g, j, none⟩) hg u
theorem drop1_len2 (k : Int) (s : List At) : (drop1 k s).length ≤ s.length := by
  cases s with
  | nil => simp [drop1]
  | cons a s => show (if a.key = k then s else a :: s).length ≤ _; split <;> simp
theorem apply_len2 : ∀ (p : List Ch) (s : List At), (applyP p s).length ≤ p.length + s.length
  | [], s => by simp [applyP]
  | c :: p, s => by
    rw [applyP]
    have h1 := apply_len2 p (drop1 c.key (s.dropWhile (fun a => decide (a.key < c.key))))
    have h2 := drop1_len2 c.key (s.dropWhile (fun a => decide (a.key < c.key)))
    have h3 : (s.takeWhile (fun a => decide (a.key < c.key))).length + (s.dropWhile (fun a => decide (a.key < c.key))).length = s.length := by
      rw [← List.length_append, List.takeWhile_append_dropWhile]
    have h4 : (put1 c).length ≤ 1 := by unfold put1; split <;> simp
    simp only [List.length_append, List.length_cons]
    omega
theorem copy15D {w : World} {A : Option Addr} {n c : Nat} {x : List OpS} (h : OpsAt w A n x) : Calls Tryz.prog 32 #[.slice A n c] w (NewOpC (osOf x) w) := by
  refine (copy15_any A n c x w h.len h.rd (by have := h.b; omega) (fun o ho => by obtain ⟨_, _, a, b, c⟩ := h.ok o ho; omega)).mono ?_
  rintro e w' ⟨A', c', z, he, hz, ho, hp, y⟩
  obtain ⟨k1, k2⟩ := cap_own ho
  exact ⟨A', c', z, he, hz, ⟨⟨rd_made ho hp, rfl, all_os hz h.ok, by rw [len_os hz, ← h.len]; exact h.b⟩, k1, k2, fun o hm => by obtain ⟨g, hg⟩ := hp o hm; exact cap_part hg⟩, y⟩
theorem applyWr {w : World} {A B : Option Addr} {n c n2 c2 s : Nat} {L : List ClS} {l : List Ky} {most : Int} {N : Nat} {x : List OpS} (h : DocAt w A n c L) (hx : OpsAt w B n2 x) (hS : Sch w s l) (hT : Lib.Utf8Tabs 1 2 w) (hl : l.length ≤ 64) (hin : In l x (clsOf L) most N) (hz : applyN l x (clsOf L) most = 0) :
    Calls Tryz.prog 33 #[.pointer (some ⟨s, 0, none⟩), .slice A n c, .slice B n2 c2, .int .i64 most] w fun e w' =>
      ∃ A c M, e = .returned (.tuple #[.slice A M.length c, .int .i64 0]) ∧ clsOf M = app l (units (osOf x)) (clsOf L) ∧ WrC w' w.heap.size A M.length c M ∧ DocAt w' A M.length c M ∧ M.length ≤ N ∧ Below w.heap.size w w' := by
  refine (applyD_any s l A B n c n2 c2 L x most w h.len hx.len h.cap (by have := h.b; omega) (by have := hx.b; omega) h.rd hx.rd hS (fun z hz => ⟨by have := (h.vr z hz).1; omega, (h.vr z hz).2⟩) h.caps hx.ok hT).mono ?_
  rintro e w' ⟨y, ⟨hne, _⟩ | ⟨_, A', c', M, rfl, hM, oM, pM⟩⟩
  · exact absurd hz hne
  · have cm := (came (most := N) hl (by have := hx.b; have := hx.len; omega) (by have := hin.n; omega) hx.ok h.cvr hin.at_).2.2
    rw [← hM] at cm
    have hlen : M.length ≤ N := by
      have h1 := hin.an
      rwa [← hM, clsOf_len] at h1
    exact ⟨A', c', M, rfl, hM, WrC.of oM pM, DocAt.made oM pM (fun z hz => ⟨by have := cm.s64 z hz; omega, cm.vr z hz⟩) (by have := hin.n; omega), hlen, y⟩
end Go.Proofs.YtfnkjcodcoehcaaGreatDoor
