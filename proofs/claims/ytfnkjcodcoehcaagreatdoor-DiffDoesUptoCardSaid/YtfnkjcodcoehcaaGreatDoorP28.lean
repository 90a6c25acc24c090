/- Merged texts: Copy15, SliceOs. -/
import Derived.Deep.RegionHeld3
import Derived.Deep.RegionHeldLaw
import Derived.Test.YtfnkjcodcoehcaaGreatDoorP19
import Derived.Test.YtfnkjcodcoehcaaGreatDoorP23
import Derived.Test.YtfnkjcodcoehcaaGreatDoorP7
namespace Go.Proofs.YtfnkjcodcoehcaaGreatDoor
open Go.RowKit
set_option linter.unusedVariables false
set_option linter.unusedSimpArgs false

theorem Below.grown0 {w w1 w2 : World} (h : Below w.heap.size w w1) (hg : w1.grownBy w2 none) : Below w.heap.size w w2 := h.grown hg h.size (fun k hk => by cases hk)

/-- one op copied and appended -/
theorem copy15_step {w wr wb5 w5 w6 w7 wc w9 : World} {ov v9 : Value} {D : List OpS} {x' : OpS} {O : Obj} (y : Below w.heap.size w wr) (yb : Below wr.heap.size wr wb5)
    (how : OwOs wr w.heap.size ov D) (hp : ∀ x ∈ D, ∀ g, wb ov = some g → PartN wr w.heap.size g x)
    (o5 : OwI32 w5 wb5.heap.size (.slice x'.Ar x'.o.r.length x'.cr) x'.o.r) (z5 : Below w5.heap.size w5 wc)
    (o6 : OwAt w6 wb5.heap.size (.slice x'.As x'.o.s.length x'.cs) x'.o.s) (z6 : Below w6.heap.size w6 wc)
    (o7 : OwCh w7 wb5.heap.size (.slice x'.Ap x'.o.p.length x'.cp) x'.o.p) (z7 : Below w7.heap.size w7 wc)
    (yw : Below wb5.heap.size wb5 wc) (o9 : OwOs w9 w.heap.size v9 (D ++ [x'])) (g9 : (wc.alloc O).grownBy w9 (wb ov))
    (hv : v9 = ov ∧ w9 = wc.alloc O ∨ wb v9 = wb ov ∨ wb v9 = some (wc.alloc O).heap.size) :
    (∀ x ∈ D ++ [x'], ∀ g, wb v9 = some g → PartN w9 w.heap.size g x) ∧ Below w.heap.size w w9 := by
  have s0 := y.size
  have s1 := yb.size
  have s2 := yw.size
  have yc := ext_trans yb yw
  have ya := ext_trans yc (ext_alloc wc O)
  have hvw : ∀ g, wb v9 = some g → wb ov = some g ∨ wc.heap.size ≤ g := fun g hg => by
    rcases hv with ⟨h, _⟩ | h | h
    · subst h; exact .inl hg
    · exact .inl (h ▸ hg)
    · rw [h] at hg; injection hg with hg; have : (wc.alloc O).heap.size = wc.heap.size + 1 := by simp
      exact .inr (by omega)
  have kb : ∀ k, k < wc.heap.size → wb ov ≠ some k → w9.heap[k]? = wc.heap[k]? := fun k hk hne =>
    (g9.block k (Nat.lt_of_lt_of_le hk (ext_alloc wc O).size) (fun e => hne e.symm)).trans ((ext_alloc wc O).block k hk)
  have hov : ∀ g, wb ov = some g → g < wr.heap.size := fun g hg => (how.wb_lt g hg).2
  refine ⟨fun x hx g hg => ?_, ?_⟩
  · rcases List.mem_append.1 hx with hx | hx
    · have part : ∀ {α : Type} {enc : α → List Value} {size : Nat} {e : TypeId} {v : Value} {l : List α}, Ow enc size e wr w.heap.size v l → (∀ b, wb ov = some b → wb v ≠ some b) → Ow enc size e w9 w.heap.size v l ∧ wb v ≠ some g := by
        intro α enc size e v l h hne
        refine ⟨h.keep fun k hk => ?_, fun e => ?_⟩
        · have hlt := (h.wb_lt k hk).2
          rw [kb k (Nat.lt_of_lt_of_le hlt yc.size) (fun e => hne k e hk)]
          exact yc.block k hlt
        · have hlt := (h.wb_lt g e).2
          rcases hvw g hg with h1 | h1
          · exact hne g h1 e
          · have := yc.size; omega
      have q : ∀ b, wb ov = some b → PartN wr w.heap.size b x := fun b hb => hp x hx b hb
      by_cases hb : ∃ b, wb ov = some b
      · obtain ⟨b, hb⟩ := hb
        have p := q b hb
        exact ⟨part p.1.1 (fun b' hb' => (q b' hb').1.2), part p.2.1.1 (fun b' hb' => (q b' hb').2.1.2), part p.2.2.1 (fun b' hb' => (q b' hb').2.2.2)⟩
      · exfalso
        have hpos : 0 < D.length := List.length_pos_of_mem hx
        obtain ⟨A', c', rfl, hc, _⟩ := how.form
        have hA : ∃ g, A' = some ⟨g, 0, none⟩ := by obtain ⟨g, cur, hA, _⟩ := how.row hpos; exact ⟨g, hA⟩
        obtain ⟨b, rfl⟩ := hA
        cases c' with
        | zero => omega
        | succ c' => exact hb ⟨b, rfl⟩
    · simp at hx
      subst hx
      have part : ∀ {α : Type} {enc : α → List Value} {size : Nat} {e : TypeId} {v : Value} {l : List α} {wk : World}, Ow enc size e wk wb5.heap.size v l → Below wk.heap.size wk wc → Ow enc size e w9 w.heap.size v l ∧ wb v ≠ some g := by
        intro α enc size e v l wk h z
        have hlt : ∀ k, wb v = some k → wb5.heap.size ≤ k ∧ k < wc.heap.size := fun k hk => ⟨(h.wb_lt k hk).1, Nat.lt_of_lt_of_le (h.wb_lt k hk).2 z.size⟩
        refine ⟨((h.below z (Nat.le_refl _)).base_le (by omega)).keep fun k hk => kb k (hlt k hk).2 (fun e => by have := hov k e; have := (hlt k hk).1; omega), fun e => ?_⟩
        have h2 := hlt g e
        rcases hvw g hg with h1 | h1
        · have := hov g h1; omega
        · omega
      exact ⟨part o5 z5, part o6 z6, part o7 z7⟩
  · have yy := ext_trans y ya
    exact yy.grown g9 yy.size (fun k hk => (how.wb_lt k hk).1)
set_option maxRecDepth 100000 in
set_option maxHeartbeats 4000000 in
theorem copy15_any (A : Option Addr) (n c : Nat) (l : List OpS) (w : World) (hn : n = l.length) (h : RdOp w w.heap.size A l) (hb : n ≤ 100000000) (hs : ∀ x ∈ l, x.o.r.length ≤ 100000000 ∧ x.o.s.length ≤ 100000000 ∧ x.o.p.length ≤ 100000000) :
    Calls Tryz.prog 32 #[.slice A n c] w (NewOps (osOf l) w) := by
  have N := Lib.hid hn
  have HS := Lib.hid hs
  have HX := Lib.hid h
  clear hn hs h
  go_enter Tryz.func32, Tryz.ntmps32
  go_wp2_with (fail)
  go_loopg [3, 4] n (fun g ov iv wr => ∃ (m : Nat) (D : List OpS), m ≤ n ∧ g = n - m ∧ iv = .int .i64 (m : Int) ∧ osOf D = osOf (l.take m) ∧ D.length = m ∧ OwOs wr w.heap.size ov D ∧ Hid (∀ x ∈ D, ∀ g, wb ov = some g → PartN wr w.heap.size g x) ∧ Below w.heap.size w wr)
  case atStart => exact ⟨0, [], by omega, rfl, rfl, rfl, rfl, Ow.nil _ _, Lib.hid (fun x hx => by cases hx), Below.refl _ _⟩
  case round =>
    obtain ⟨m, D, hm, hg, rfl, hDo, hD, hown, HP, y⟩ := hrel
    have HG := Lib.hid hg
    clear hg
    by_cases hlt : m < n
    · have hl1 : m < l.length := by have := N.out; omega
      obtain ⟨ad, o, had0, hd1, hx1, hc0⟩ := (HX.out.ext y).1.elIn hl1
      subst had0
      have HM := Lib.hid hx1
      obtain ⟨g1, g2, g3⟩ := (HX.out.ext y).2 o (List.mem_of_getElem? hx1)
      obtain ⟨v3, v4, v5⟩ := HS.out o (List.mem_of_getElem? hx1)
      obtain ⟨⟨k, nn, r, s, p⟩, Ar, cr, As, cs, Ap, cp⟩ := o
      simp only at g1 g2 g3 v3 v4 v5
      have HC := Lib.hid hc0
      obtain ⟨r0, r1, r2, r3, r4⟩ := op_cells HC.out.2
      have G1 := Lib.hid g1
      have G2 := Lib.hid g2
      have G3 := Lib.hid g3
      have hw2 : IntKind.i64.wrap ((m:Int) + 1) = (m : Int) + 1 := IntWalk.i64_in _ (by omega)
      clear hc0 hd1 hx1 g1 g2 g3
      have yb := ext_alloc wr (.cells #[.int .u8 k, .int .i64 nn, .slice Ar r.length cr, .slice As s.length cs, .slice Ap p.length cp] 50)
      have hbx := heap_alloc_new wr (.cells #[.int .u8 k, .int .i64 nn, .slice Ar r.length cr, .slice As s.length cs, .slice Ap p.length cp] 50)
      have szb : (wr.alloc (.cells #[.int .u8 k, .int .i64 nn, .slice Ar r.length cr, .slice As s.length cs, .slice Ap p.length cp] 50)).heap.size = wr.heap.size + 1 := by simp
      have HOW := Lib.hid hown
      go_wp2_with (fail)
      generalize hwb : wr.alloc (.cells #[.int .u8 k, .int .i64 nn, .slice Ar r.length cr, .slice As s.length cs, .slice Ap p.length cp] 50) = wb at *
      have opb : ∀ {W : World}, Below wb.heap.size wb W → W.cell? ⟨wr.heap.size, 0, none⟩ = some (.int .u8 k) ∧ W.cell? ⟨wr.heap.size, 1, none⟩ = some (.int .i64 nn) ∧ W.cell? ⟨wr.heap.size, 2, none⟩ = some (.slice Ar r.length cr) ∧ W.cell? ⟨wr.heap.size, 3, none⟩ = some (.slice As s.length cs) ∧ W.cell? ⟨wr.heap.size, 4, none⟩ = some (.slice Ap p.length cp) := fun {W} yw => box_at ((yw.block _ (by omega)).trans hbx)
      have YW : Hid (Below wb.heap.size wb wb.drew) := Lib.hid (up_drew (Below.refl _ _))
      have YB : Hid (Below wb.heap.size wb wb) := Lib.hid (Below.refl _ _)
      have G1 := Lib.hid (G1.out.ext yb)
      have G2 := Lib.hid (G2.out.ext yb)
      have G3 := Lib.hid (G3.out.ext yb)
      have Cw := opb YB.out
      have keepS : ∀ W : World, Below wb.heap.size wb W → Below wb.heap.size wb W ∧ W.cell? ⟨wr.heap.size, 0, none⟩ = some (.int .u8 k) ∧ W.cell? ⟨wr.heap.size, 1, none⟩ = some (.int .i64 nn) ∧ W.cell? ⟨wr.heap.size, 2, none⟩ = some (.slice Ar r.length cr) ∧ W.cell? ⟨wr.heap.size, 3, none⟩ = some (.slice As s.length cs) ∧ W.cell? ⟨wr.heap.size, 4, none⟩ = some (.slice Ap p.length cp) := fun W z => ⟨z, opb z⟩
      go_region_held_law (fun w' => w'.cell? ⟨wr.heap.size, 0, none⟩ = some (.int .u8 k) ∧ w'.cell? ⟨wr.heap.size, 1, none⟩ = some (.int .i64 nn) ∧ w'.cell? ⟨wr.heap.size, 2, none⟩ = some (.slice Ar r.length cr) ∧ w'.cell? ⟨wr.heap.size, 3, none⟩ = some (.slice As s.length cs) ∧ w'.cell? ⟨wr.heap.size, 4, none⟩ = some (.slice Ap p.length cp)) (first | exact C9 | exact opb (by repeat (first | exact YW.out | exact YB.out | refine ext_trans ?_ (ext_alloc _ _) | refine up_drew ?_))) (first
        | (refine step_i32_0 (m := r) rfl (.tmp 21) (.tmp 23) (by rfl) ⟨_, rfl⟩ wb.heap.size _ Ar cr r.length (by rfl) rfl (G1.out.ext (by repeat (first | exact YW.out | exact YB.out | refine ext_trans ?_ (ext_alloc _ _) | refine up_drew ?_))) (by omega) (by exact ((by repeat (first | exact YW.out | exact YB.out | refine ext_trans ?_ (ext_alloc _ _) | refine up_drew ?_)) : Below wb.heap.size wb _).size) ?_
           intro vI32 w5 hoI32 hgrI32
           obtain ⟨A5, k5, hv5, _, _⟩ := hoI32.form
           subst hv5
           have OI32 := Lib.hid hoI32
           have YW : Hid (Below wb.heap.size wb w5) := Lib.hid (Below.grown0 (by repeat (first | exact YW.out | exact YB.out | refine ext_trans ?_ (ext_alloc _ _) | refine up_drew ?_)) hgrI32)
           have CI32 := opb YW.out
           try (have ZAt : Hid (Below w6.heap.size w6 w5) := Lib.hid (Below.grown0 (by repeat (first | exact ZAt.out | refine ext_trans ?_ (ext_alloc _ _) | refine up_drew ?_)) hgrI32))
           try (have ZCh : Hid (Below w7.heap.size w7 w5) := Lib.hid (Below.grown0 (by repeat (first | exact ZCh.out | refine ext_trans ?_ (ext_alloc _ _) | refine up_drew ?_)) hgrI32))
           have ZI32 : Hid (Below w5.heap.size w5 w5) := Lib.hid (Below.refl _ _)
           clear hoI32 hgrI32)
        | (refine step_at_0 (m := s) rfl (.tmp 25) (.tmp 27) (by rfl) ⟨_, rfl⟩ wb.heap.size _ As cs s.length (by rfl) rfl (G2.out.ext (by repeat (first | exact YW.out | exact YB.out | refine ext_trans ?_ (ext_alloc _ _) | refine up_drew ?_))) (by omega) (by exact ((by repeat (first | exact YW.out | exact YB.out | refine ext_trans ?_ (ext_alloc _ _) | refine up_drew ?_)) : Below wb.heap.size wb _).size) ?_
           intro vAt w6 hoAt hgrAt
           obtain ⟨A6, k6, hv6, _, _⟩ := hoAt.form
           subst hv6
           have OAt := Lib.hid hoAt
           have YW : Hid (Below wb.heap.size wb w6) := Lib.hid (Below.grown0 (by repeat (first | exact YW.out | exact YB.out | refine ext_trans ?_ (ext_alloc _ _) | refine up_drew ?_)) hgrAt)
           have CAt := opb YW.out
           try (have ZI32 : Hid (Below w5.heap.size w5 w6) := Lib.hid (Below.grown0 (by repeat (first | exact ZI32.out | refine ext_trans ?_ (ext_alloc _ _) | refine up_drew ?_)) hgrAt))
           try (have ZCh : Hid (Below w7.heap.size w7 w6) := Lib.hid (Below.grown0 (by repeat (first | exact ZCh.out | refine ext_trans ?_ (ext_alloc _ _) | refine up_drew ?_)) hgrAt))
           have ZAt : Hid (Below w6.heap.size w6 w6) := Lib.hid (Below.refl _ _)
           clear hoAt hgrAt)
        | (refine step_ch_0 (m := p) rfl (.tmp 29) (.tmp 31) (by rfl) ⟨_, rfl⟩ wb.heap.size _ Ap cp p.length (by rfl) rfl (G3.out.ext (by repeat (first | exact YW.out | exact YB.out | refine ext_trans ?_ (ext_alloc _ _) | refine up_drew ?_))) (by omega) (by exact ((by repeat (first | exact YW.out | exact YB.out | refine ext_trans ?_ (ext_alloc _ _) | refine up_drew ?_)) : Below wb.heap.size wb _).size) ?_
           intro vCh w7 hoCh hgrCh
           obtain ⟨A7, k7, hv7, _, _⟩ := hoCh.form
           subst hv7
           have OCh := Lib.hid hoCh
           have YW : Hid (Below wb.heap.size wb w7) := Lib.hid (Below.grown0 (by repeat (first | exact YW.out | exact YB.out | refine ext_trans ?_ (ext_alloc _ _) | refine up_drew ?_)) hgrCh)
           have CCh := opb YW.out
           try (have ZI32 : Hid (Below w5.heap.size w5 w7) := Lib.hid (Below.grown0 (by repeat (first | exact ZI32.out | refine ext_trans ?_ (ext_alloc _ _) | refine up_drew ?_)) hgrCh))
           try (have ZAt : Hid (Below w6.heap.size w6 w7) := Lib.hid (Below.grown0 (by repeat (first | exact ZAt.out | refine ext_trans ?_ (ext_alloc _ _) | refine up_drew ?_)) hgrCh))
           have ZCh : Hid (Below w7.heap.size w7 w7) := Lib.hid (Below.refl _ _)
           clear hoCh hgrCh)
        | (refine step_os (l := D) (m := [(⟨⟨k, nn, r, s, p⟩, A5, k5, A6, k6, A7, k7⟩ : OpS)]) rfl (.tmp 16) (.tmp 34) (by rfl) (by rfl) (HOW.out.below (ext_trans (ext_trans yb YW.out) (ext_alloc _ _)) (Nat.le_refl _)) _ _ 1 1 (by rfl) rfl (rd_one (enc := OpS.enc) (size := 5) w7 _ (⟨⟨k, nn, r, s, p⟩, A5, k5, A6, k6, A7, k7⟩ : OpS) rfl) (by simp only [List.length_singleton]; omega) (Nat.le_trans y.size (ext_trans (ext_trans yb YW.out) (ext_alloc _ _)).size) ?_
           intro v9 w9 ho9 hgr9 hw9
           have O9 := Lib.hid ho9
           have HW9 := Lib.hid hw9
           have HG9 := Lib.hid hgr9
           have C9 := box_at ((hgr9.block wr.heap.size (Nat.lt_of_lt_of_le (by omega : wr.heap.size < wb.heap.size) (ext_trans YW.out (ext_alloc _ _)).size) (fun e => by have := (HOW.out.wb_lt wr.heap.size e.symm).2; omega)).trans (((ext_trans YW.out (ext_alloc _ _)).block wr.heap.size (by omega)).trans hbx))
           clear ho9 hgr9 hw9))
      all_goals
        have r := copy15_step (x' := ⟨⟨k, nn, r, s, p⟩, A5, k5, A6, k6, A7, k7⟩) y yb HOW.out HP.out OI32.out ZI32.out OAt.out ZAt.out OCh.out ZCh.out YW.out O9.out HG9.out HW9.out
        have R1 := Lib.hid r.1
        have R2 := Lib.hid r.2
        clear r
        go_wp2_with (fail)
        go_roundg (n - (m + 1))
      all_goals first
        | (have := HG.out; omega)
        | (refine ⟨m + 1, D ++ [⟨⟨k, nn, r, s, p⟩, A5, k5, A6, k6, A7, k7⟩], by omega, rfl, by go_num, ?_, by simp [hD], O9.out, R1, R2.out⟩
           rw [List.take_add_one, HM.out]
           unfold osOf at hDo ⊢
           rw [List.map_append, List.map_append, hDo]; rfl)
    · have hml : m = n := by omega
      subst hml
      have HO := Lib.hid hown
      have HD := Lib.hid hD
      have HDO := Lib.hid hDo
      clear hown hD hDo
      obtain ⟨A1, k1, hv1, _, _⟩ := HO.out.form
      subst hv1
      go_wp2_with (fail)
      go_ret
      refine ⟨A1, k1, D, rfl, by rw [HDO.out, N.out, List.take_length], HO.out, fun x hx => ?_, y⟩
      have hpos : 0 < D.length := List.length_pos_of_mem hx
      obtain ⟨g, cur, hA, _⟩ := HO.out.row hpos
      subst hA
      have hc := (cap_own HO.out).1
      cases k1 with
      | zero => omega
      | succ k1 => exact ⟨g, HP.out x hx g rfl⟩
end Go.Proofs.YtfnkjcodcoehcaaGreatDoor
namespace Go.Proofs.YtfnkjcodcoehcaaGreatDoor
open Go.RowKit
set_option linter.unusedVariables false
set_option linter.unusedSimpArgs false

section
variable {w : World} {A : Option Addr} {n c k : Nat} {x : List OpS}
theorem OpsC.drop (h : OpsC w A n c x) (hk : k ≤ n) : OpsC w (advS A c k 5) (n - k) (c - k) (x.drop k) := by
  have hl := h.at_.len
  have hc := h.cap
  have h2 := h.at_.rd.1.advS (k := k) (c := c) (by omega) (by omega)
  exact ⟨⟨⟨h2, fun z hz => h.at_.rd.2 z (List.mem_of_mem_drop hz)⟩, by rw [List.length_drop]; omega, fun z hz => h.at_.ok z (List.mem_of_mem_drop hz), by have := h.at_.b; omega⟩, by omega, by have := h.cm; omega, fun z hz => h.caps z (List.mem_of_mem_drop hz)⟩
theorem OpsC.take (h : OpsC w A n c x) (hk : k ≤ n) : OpsC w A k c (x.take k) := by
  have hl := h.at_.len
  have hc := h.cap
  exact ⟨⟨⟨h.at_.rd.1.take k, fun z hz => h.at_.rd.2 z (List.mem_of_mem_take hz)⟩, by rw [List.length_take]; omega, fun z hz => h.at_.ok z (List.mem_of_mem_take hz), by have := h.at_.b; omega⟩, by omega, h.cm, fun z hz => h.caps z (List.mem_of_mem_take hz)⟩
theorem OpsC.first {o : OpS} {t : List OpS} (h : OpsC w A n c (o :: t)) : ∃ ad, A = some ad ∧ ad.block < w.heap.size ∧ CellsAt w ad o.enc := by
  obtain ⟨ad, e, hb, hc⟩ := h.at_.rd.1.at_ (i := 0) (by simp)
  rw [Nat.zero_mul, add_zero'] at hc
  exact ⟨ad, e, hb, hc⟩
/-- an op set ahead of others, in a row of the call's own -/
theorem OpsC.cons {w w' : World} {B : Nat} {A A' : Option Addr} {n c c' k : Nat} {o : OpS} {x : List OpS} (h : OpsC w A n c x) (y : Below w.heap.size w w') (ho : OwOs w' B (.slice A' (o :: x).length c') (o :: x)) (hk : k = n + 1) (hp : RdI32 w' w'.heap.size o.Ar o.o.r ∧ RdAt w' w'.heap.size o.As o.o.s ∧ RdCh w' w'.heap.size o.Ap o.o.p) (hok : okOp o.o) (hc : capO o) (hb : n ≤ 900000) : OpsC w' A' k c' (o :: x) := by
  obtain ⟨c1, c2⟩ := cap_own ho
  have hl := h.at_.len
  have e : (o :: x).length = k := by rw [List.length_cons, hk, hl]
  refine ⟨⟨⟨ho.rd OpS.enc_len, fun z hz => ?_⟩, e.symm, fun z hz => ?_, by omega⟩, by omega, c2, fun z hz => ?_⟩
  · rcases List.mem_cons.1 hz with rfl | hz
    · exact hp
    · exact (h.at_.rd.ext y).2 z hz
  · rcases List.mem_cons.1 hz with rfl | hz
    · exact hok
    · exact h.at_.ok z hz
  · rcases List.mem_cons.1 hz with rfl | hz
    · exact hc
    · exact h.caps z hz
end
end Go.Proofs.YtfnkjcodcoehcaaGreatDoor
