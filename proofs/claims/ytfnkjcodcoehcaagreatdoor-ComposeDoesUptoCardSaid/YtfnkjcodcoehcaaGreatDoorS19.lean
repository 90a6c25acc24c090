/- Merged texts: ApplyNew, ApplyOk, ApplyW, FitNf, MkGap, MkIns, MkIns2. -/
import Derived.Test.YtfnkjcodcoehcaaGreatDoorS18
import Derived.Test.YtfnkjcodcoehcaaGreatDoorS16
import Derived.Test.YtfnkjcodcoehcaaGreatDoorS15
import Derived.Test.YtfnkjcodcoehcaaGreatDoorS17
import Derived.Deep.DeepMust
namespace Go.Proofs.YtfnkjcodcoehcaaGreatDoor
open Go.RowKit Go.Shelf
set_option linter.unusedVariables false
set_option linter.unusedSimpArgs false

/-- what has come lies in a slice of the call's own, whose value stands in box m -/
def ApI (w0 : World) (m : Nat) (p : List Cl) (G : Nat → Prop) (W : World) : Prop :=
  ∃ v L, W.heap[m]? = some (.cells #[v] 23 (0, 0)) ∧ clsOf L = p ∧ OwCs W (m + 6) v L ∧ (∀ z ∈ L, PartC W w0.heap.size v z ∧ ∀ k, wb (.slice z.As z.c.s.length z.cs) = some k → k ≠ m ∧ k ≠ m + 2 ∧ k ≠ m + 4 ∧ k ≠ m + 5) ∧
    Below w0.heap.size w0 W ∧ ∀ k, G k ↔ k = m ∨ wb v = some k
theorem ApI.keep {w0 A B : World} {m : Nat} {p : List Cl} {G : Nat → Prop} (hm : w0.heap.size ≤ m) (h : ApI w0 m p G A) (g : Grow A (fun k => k = m + 4 ∨ k = m + 4 + 1 ∨ k = m + 2) B (fun k => k = m + 4 ∨ k = m + 4 + 1 ∨ k = m + 2)) : ApI w0 m p G B := by
  obtain ⟨v, L, hb, hL, ho, hp, y, hG⟩ := h
  refine ⟨v, L, (g.block m (lt_of_some hb) (by omega)).trans hb, hL, ho.keep fun k hk => g.block k (ho.wb_lt k hk).2 (by have := (ho.wb_lt k hk).1; omega), fun z hz => ?_, y.trans (g.below (fun k hk => by omega) y.size), hG⟩
  obtain ⟨hz1, hz2⟩ := hp z hz
  exact ⟨⟨hz1.1.keep fun k hk => g.block k (hz1.1.wb_lt k hk).2 (by have := hz2 k hk; omega), hz1.2⟩, hz2⟩
theorem ApI.foot {w0 A : World} {m : Nat} {p : List Cl} {G : Nat → Prop} (hm : w0.heap.size ≤ m) (h : ApI w0 m p G A) : ∀ k, G k → k < A.heap.size ∧ (k = m ∨ m + 6 ≤ k) := fun k hk => by
  obtain ⟨v, L, hb, hL, ho, hp, y, hG⟩ := h
  rcases (hG k).1 hk with rfl | h1
  · exact ⟨lt_of_some hb, .inl rfl⟩
  · exact ⟨(ho.wb_lt k h1).2, .inr (ho.wb_lt k h1).1⟩
theorem ApI.app {w0 W W2 w3 : World} {m : Nat} {p : List Cl} {G : Nat → Prop} {v v' : Value} {L : List ClS} {z : ClS} (hm : w0.heap.size ≤ m) (hb : W.heap[m]? = some (.cells #[v] 23 (0, 0))) (hL : clsOf L = p) (ho : OwCs W (m + 6) v L)
    (hp : ∀ z ∈ L, PartC W w0.heap.size v z ∧ ∀ k, wb (.slice z.As z.c.s.length z.cs) = some k → k ≠ m ∧ k ≠ m + 2 ∧ k ≠ m + 4 ∧ k ≠ m + 5) (y : Below w0.heap.size w0 W) (hG : ∀ k, G k ↔ k = m ∨ wb v = some k)
    (hz : OwAt W w0.heap.size (.slice z.As z.c.s.length z.cs) z.c.s) (hzo : ∀ k, wb (.slice z.As z.c.s.length z.cs) = some k → ¬ Un2 G (m + 4) k ∧ k ≠ m + 2) (hs : m + 6 ≤ W.heap.size)
    (y2 : Below W.heap.size W W2) (hgr : W2.grownBy w3 (wb v)) (hown' : OwCs w3 (m + 6) v' (L ++ [z])) (hv' : v' = v ∧ w3 = W2 ∨ wb v' = wb v ∨ wb v' = some W2.heap.size) :
    w3.heap[m]? = some (.cells #[v] 23 (0, 0)) ∧ ∃ G', ApI w0 m (p ++ [z.c]) G' (w3.setCell ⟨m, 0, none⟩ v') ∧ Grow W G (w3.setCell ⟨m, 0, none⟩ v') G' := by
  have b2 := (y2.block m (lt_of_some hb)).trans hb
  have nm : wb v ≠ some m := fun e => by have := (ho.wb_lt m e).1; omega
  have b3 := (hgr.block m (lt_of_some b2) (fun e => nm e.symm)).trans b2
  refine ⟨b3, fun k => k = m ∨ wb v' = some k, ?_, ?_⟩
  · have b4 := heap_setCell_self (j := 0) b3 v'
    have gs := setCell_below (w := w3) m 0 v' (F := fun k => k = m) rfl 0
    have nm' : wb v' ≠ some m := fun e => by have := (hown'.wb_lt m e).1; omega
    refine ⟨v', L ++ [z], by simpa using b4, ?_, hown'.setCell (p := ⟨m, 0, none⟩) nm' v', ?_, ?_, fun _ => Iff.rfl⟩
    · rw [← hL]; unfold clsOf; simp
    · intro x hx
      have hx2 : PartC W w0.heap.size v x ∧ ∀ k, wb (.slice x.As x.c.s.length x.cs) = some k → k ≠ m ∧ k ≠ m + 2 ∧ k ≠ m + 4 ∧ k ≠ m + 5 := by
        rcases List.mem_append.1 hx with hx | hx
        · exact hp x hx
        · simp at hx; subst hx
          refine ⟨⟨hz, fun k hk e => (hzo k hk).1 (.inl ((hG k).2 (.inr e)))⟩, fun k hk => ⟨fun e => (hzo k hk).1 (.inl ((hG k).2 (.inl e))), (hzo k hk).2, fun e => (hzo k hk).1 (.inr (.inl e)), fun e => (hzo k hk).1 (.inr (.inr (by omega)))⟩⟩
      have h3 := (hx2.1.below y2).app hgr hv'
      exact ⟨⟨h3.1.setCell (p := ⟨m, 0, none⟩) (fun e => (hx2.2 m e).1 rfl) v', h3.2⟩, hx2.2⟩
    · have y3 : Below w0.heap.size w0 w3 := (y.trans (y2.mono y.size)).grown hgr (by have := y.size; have := y2.size; omega) (fun k e => by have := (ho.wb_lt k e).1; omega)
      exact y3.trans (gs.below (fun k hk => by omega) y3.size)
  · have gs := setCell_below (w := w3) m 0 v' (F := fun k => k = m ∨ wb v' = some k) (.inl rfl) 0
    have g3 : Grow W G w3 (fun k => k = m ∨ wb v' = some k) := ⟨hgr.os.trans y2.os, hgr.tape.trans y2.tape, hgr.output.trans y2.output, Nat.le_trans y2.size hgr.size,
      fun j hj hn => (hgr.block j (Nat.lt_of_lt_of_le hj y2.size) (fun e => hn ((hG j).2 (.inr e.symm)))).trans (y2.block j hj),
      fun k hk => by
        rcases hk with rfl | hk
        · exact .inl ((hG _).2 (.inl rfl))
        · rcases hv' with ⟨rfl, _⟩ | h1 | h1
          · exact .inl ((hG k).2 (.inr hk))
          · exact .inl ((hG k).2 (.inr (by rw [← h1]; exact hk)))
          · rw [h1] at hk; injection hk with hk; have := y2.size; exact .inr (by omega)⟩
    exact g3.trans gs
end Go.Proofs.YtfnkjcodcoehcaaGreatDoor
namespace Go.Proofs.YtfnkjcodcoehcaaGreatDoor
set_option linter.unusedVariables false
set_option linter.unusedSimpArgs false

/-- the fields' ranges of a unit's values -/
def okUn : Un → Prop
  | .ins r s => okVr s
  | .del => True
  | .ret p => okVs p
theorem vr_apply {p : List Ch} {a : List At} (a1 : riseA a = true) (p1 : riseC p = true) (va : okVr a) (vp : okVs p) : okVr (applyP p a) := fun c hc => by
  obtain ⟨d1, d2, _⟩ := apply_all (riseC_srt.1 p1) (riseA_srt.1 a1)
  have h1 := lk_of_mem At.key d1 hc
  rw [d2] at h1
  cases hy : lk Ch.key p c.key with
  | none =>
    rw [hy] at h1
    have h1 : lk At.key a c.key = some c := h1
    exact va c (lk_mem At.key h1)
  | some y =>
    rw [hy] at h1
    simp only [lkApply] at h1
    by_cases hg : y.gone = true
    · rw [if_pos hg] at h1; cases h1
    · rw [if_neg hg] at h1
      simp only [Option.some.injEq] at h1
      rw [← h1]
      exact (vp y (lk_mem Ch.key hy)).1
theorem vr_act {l : List Ky} {c : Cl} {p : List Ch} (hs : mayS l c.s = 0) (hp : mayP l p = 0) (va : okVr c.s) (vp : okVs p) : okVr (actC l c p).s := by
  obtain ⟨_, a1, _⟩ := mayS_zero hs
  obtain ⟨_, p1, _⟩ := mayP_zero (stay_filter (fun x => keepK l (c.r == 10) x.key) hp)
  exact vr_apply a1 p1 va (vs_filter _ vp)
theorem okUn_of {o : Opd} (h : okOp o) : ∀ u ∈ unitsO o, okUn u := fun u hu => by
  unfold unitsO at hu
  by_cases h2 : o.k = 2
  · rw [if_pos h2] at hu
    obtain ⟨r, _, rfl⟩ := List.mem_map.1 hu
    exact h.1
  · rw [if_neg h2] at hu
    by_cases h1 : o.k = 1
    · rw [if_pos h1] at hu
      rw [(List.mem_replicate.1 hu).2]; exact h.2.1
    · rw [if_neg h1] at hu
      rw [(List.mem_replicate.1 hu).2]; trivial
/-- what apply.Apply refuses by -/
def applyN (l : List Ky) (x : List OpS) (d : List Cl) (most : Int) : Int :=
  if mayO l x ≠ 0 then mayO l x else if mayD l d ≠ 0 then 3 else fitsO l x (d.length : Int) most
/-- what comes may be, and has values in their ranges -/
structure Came (l : List Ky) (us : List Un) (d : List Cl) (o : List Cl) : Prop where
  eq : o = app l us d
  may : mayD l o = 0
  len : o.length + takesU us = d.length + makesU us
  s64 : ∀ c ∈ o, c.s.length ≤ 64
  vr : ∀ c ∈ o, okVr c.s
end Go.Proofs.YtfnkjcodcoehcaaGreatDoor
namespace Go.Proofs.YtfnkjcodcoehcaaGreatDoor
open Go.RowKit Go.Shelf
set_option linter.unusedVariables false
set_option linter.unusedSimpArgs false
attribute [local go_sem] Oper.semAt_some

end Go.Proofs.YtfnkjcodcoehcaaGreatDoor
namespace Go.Proofs.YtfnkjcodcoehcaaGreatDoor
set_option linter.unusedVariables false
set_option linter.unusedSimpArgs false

theorem trim_pre (us : List Un) : ∃ k, us = trim us ++ List.replicate k (.ret []) := by
  induction us with
  | nil => exact ⟨0, rfl⟩
  | cons u us ih =>
    obtain ⟨k, hk⟩ := ih
    rw [trim]
    cases ht : trim us with
    | nil =>
      rw [ht, List.nil_append] at hk
      simp only
      by_cases hu : u = .ret []
      · rw [if_pos hu]; exact ⟨k + 1, by rw [hu, List.replicate_succ, List.nil_append, ← hk]⟩
      · rw [if_neg hu]; exact ⟨k, by rw [← hk]; rfl⟩
    | cons v vs =>
      rw [ht] at hk
      exact ⟨k, by simp only [List.cons_append]; rw [List.cons_append] at hk; rw [← hk]⟩
theorem cn_all {P : Un → Prop} (hd : P .del) : ∀ (us I : List Un) (g : Nat), (∀ u ∈ I, P u) → (∀ u ∈ us, P u) → ∀ u ∈ cn us I g, P u
  | [], I, g, hI, _ => fun u hu => by
    rcases List.mem_append.1 hu with hu | hu
    · exact hI u hu
    · rw [(List.mem_replicate.1 hu).2]; exact hd
  | .ins r s :: us, I, g, hI, hu => by
    have h1 : ∀ u ∈ I ++ [Un.ins r s], P u := fun u h => by
      rcases List.mem_append.1 h with h | h
      · exact hI u h
      · simp at h; subst h; exact hu _ (by simp)
    rw [cn]
    exact cn_all hd us (I ++ [.ins r s]) g h1 (fun u h => hu u (List.mem_cons_of_mem _ h))
  | .del :: us, I, g, hI, hu => by
    rw [cn]
    exact cn_all hd us I (g + 1) hI (fun u h => hu u (List.mem_cons_of_mem _ h))
  | .ret p :: us, I, g, hI, hu => fun u h => by
    rw [cn] at h
    rcases List.mem_append.1 h with h | h
    · rcases List.mem_append.1 h with h | h
      · exact hI u h
      · rw [(List.mem_replicate.1 h).2]; exact hd
    · rcases List.mem_cons.1 h with rfl | h
      · exact hu _ (by simp)
      · exact cn_all hd us [] 0 (by simp) (fun u h => hu u (List.mem_cons_of_mem _ h)) u h
end Go.Proofs.YtfnkjcodcoehcaaGreatDoor
namespace Go.Proofs.YtfnkjcodcoehcaaGreatDoor
open Go.RowKit
set_option linter.unusedVariables false
set_option linter.unusedSimpArgs false

def delS (g : Int) : OpS := ⟨opD g, none, 0, none, 0, none, 0⟩
def gapS (I : List OpS) (g : Int) : List OpS := I ++ (if 0 < g then [delS g] else [])
theorem gapS_os (I : List OpS) (g : Int) : osOf (gapS I g) = osOf I ++ (if 0 < g then [opD g] else []) := by
  unfold gapS osOf
  split <;> simp [delS]
theorem gapS_len (I : List OpS) (g : Int) : (gapS I g).length ≤ I.length + 1 := by unfold gapS; split <;> simp

set_option maxRecDepth 100000 in
set_option maxHeartbeats 800000 in
theorem gap_any (b : Nat) (vd : Value) (Ai : Option Addr) (ni ci : Nat) (g : Int) (I : List OpS) (w : World) (h1 : w.heap[b]? = some (.cells #[vd, .slice Ai ni ci, .int .i64 g] 189 (0, 0)))
    (hn : ni = I.length) (hr : RdOs w w.heap.size Ai I) (hb : ni ≤ 10000000) :
    Calls Tryz.prog 152 #[.pointer (some ⟨b, 0, none⟩)] w (NewOs (gapS I g) w) := by
  have N := Lib.hid hn
  have H1 := Lib.hid h1
  obtain ⟨c0, c1, c2⟩ := box_3 h1
  clear hn h1
  go_enter Tryz.func152, Tryz.ntmps152
  go_wp2_with (go_at_call 205; refine Hid.out ?_)
  refine Lib.hid ?_
  refine (cloneOs_any Ai ni ci I w N.out hr (by omega)).mono ?_
  rintro e w1 ⟨A1, k1, rfl, ho, y⟩
  obtain ⟨d0, d1, d2⟩ := box_3 ((y.block b (lt_of_some H1.out)).trans H1.out)
  have HO := Lib.hid ho
  clear ho c0 c1 c2
  by_cases hg : 0 < g
  · have e1 : gapS I g = I ++ [delS g] := by unfold gapS; rw [if_pos hg]
    have E1 := Lib.hid e1
    clear e1
    go_wp2_with (at_builtin; refine app_os (m := [delS g]) rfl (.tmp 14) (.tmp 20) rfl rfl (by exact HO.out.alloc _) _ _ 1 1 rfl rfl (by exact rd_one (enc := OpS.enc) (size := 5) _ _ (delS g) rfl) (by have := N.out; simp only [List.length_singleton]; omega) (by exact Nat.le_trans y.size (le_alloc _ _)) ?_; intro v' w' hown' hgr hv')
    have s1 := below_app (y.alloc y.size _) (by exact Nat.le_trans y.size (le_alloc _ _)) (HO.out.alloc _) (Nat.le_refl _) hgr
    rw [← E1.out] at hown'
    obtain ⟨A', c', rfl, _, _⟩ := hown'.form
    have HOW := Lib.hid hown'
    clear hown'
    go_ret
    exact ⟨A', c', rfl, HOW.out, s1⟩
  · have e1 : gapS I g = I := by unfold gapS; rw [if_neg hg]; simp
    have E1 := Lib.hid e1
    clear e1
    go_wp2_with (fail)
    go_ret
    unfold NewOs
    rw [E1.out]
    exact ⟨A1, k1, rfl, HO.out, y⟩
end Go.Proofs.YtfnkjcodcoehcaaGreatDoor
namespace Go.Proofs.YtfnkjcodcoehcaaGreatDoor
open Go.RowKit
set_option linter.unusedVariables false
set_option linter.unusedSimpArgs false

/-- a maker behind a write into one of its own cells -/
theorem Mkr.of_store {w : World} {F : Nat → Prop} {b j : Nat} {u vd vi : Value} {m : Mk} {D I : List OpS} {cs : Array Value} (hb : w.heap[b]? = some (.cells cs 189 (0, 0))) (hc : cs.setIfInBounds j u = #[vd, vi, .int .i64 m.gone])
    (h2 : OwOs w 0 vd D) (h3 : OwOs w 0 vi I) (h4 : osOf D = m.done) (h5 : osOf I = m.ins) (h6 : ∀ k, F k → k < w.heap.size) (h7 : F b) (h8 : ∀ k, wb vd = some k → F k ∧ k ≠ b ∧ wb vi ≠ some k) (h9 : ∀ k, wb vi = some k → F k ∧ k ≠ b)
    (h10 : ∀ x ∈ D, PartF w F x) (h11 : InsF w F b vd vi I) : Mkr (w.setCell ⟨b, j, none⟩ u) F b m := by
  have gr := setCell_below (w := w) b j u h7 0
  refine ⟨vd, vi, D, I, by rw [heap_setCell_self hb, hc], owOs_set h2 (fun k hk => (h8 k hk).2.1) _, owOs_set h3 (fun k hk => (h9 k hk).2) _, h4, h5, fun k hk => Nat.lt_of_lt_of_le (h6 k hk) gr.size, h7, h8, h9, fun x hx => (h10 x hx).grow gr, fun x hx => (h11.1 x hx).grow gr, fun x hx => ?_⟩
  obtain ⟨e1, e2, e3, e4⟩ := h11.2 x hx
  exact ⟨e1.setCell (p := ⟨b, j, none⟩) (fun e => (e2 b e).2.1 rfl) _, e2, ⟨e3.1.grow gr e3.2, e3.2.grow e3.1 gr⟩, ⟨e4.1.grow gr e4.2, e4.2.grow e4.1 gr⟩⟩
/-- the last insert is no longer written -/
theorem LastF.part {w w' : World} {F G : Nat → Prop} {b : Nat} {vd vi : Value} {x : OpS} (h : LastF w F b vd vi x) (g : Grow w F w' G)
    (hk : ∀ k, wb (.slice x.Ar x.o.r.length x.cr) = some k → w'.heap[k]? = w.heap[k]? ∧ ¬ G k) : PartF w' G x := by
  obtain ⟨e1, e2, e3, e4⟩ := h
  have o' : OwI32 w' 0 (.slice x.Ar x.o.r.length x.cr) x.o.r := e1.keep fun k h => (hk k h).1
  exact ⟨⟨o'.rd encI32_len, o'.offF encI32_len rfl (fun k h => (hk k h).2)⟩, ⟨e3.1.grow g e3.2, e3.2.grow e3.1 g⟩, ⟨e4.1.grow g e4.2, e4.2.grow e4.1 g⟩⟩

set_option maxRecDepth 100000 in
set_option maxHeartbeats 400000 in
theorem ins_nil (b : Nat) (A A2 : Option Addr) (c n2 c2 : Nat) (w : World) (F : Nat → Prop) (m : Mk) (h : Mkr w F b m) (s : List At) :
    Calls Tryz.prog 76 #[.pointer (some ⟨b, 0, none⟩), .slice A 0 c, .slice A2 n2 c2] w (MkOut (mkInsert m [] s) w F b) := by
  have H := Lib.hid h
  clear h
  go_enter Tryz.func76, Tryz.ntmps76
  go_wp2_with (fail)
  refine bodyPost_ret (results_none rfl _ _ _) rfl ?_
  exact ⟨rfl, F, H.out, Grow.refl _ _⟩

/-- a new insert behind the others -/
def insS (l : List Int) (s : List At) (A1 : Option Addr) (c1 : Nat) (A2 : Option Addr) (c2 : Nat) : OpS := ⟨opI l s, A1, c1, A2, c2, none, 0⟩
theorem ins_new_mk {w w1 w2 w3 w4 : World} {F : Nat → Prop} {b : Nat} {m : Mk} {vd vi vi' : Value} {D I : List OpS} {l : List Int} {s : List At} {A1 A2 : Option Addr} {c1 c2 : Nat}
    (h1 : w.heap[b]? = some (.cells #[vd, vi, .int .i64 m.gone] 189 (0, 0))) (h2 : OwOs w 0 vd D) (h3 : OwOs w 0 vi I) (h4 : osOf D = m.done) (h5 : osOf I = m.ins)
    (h6 : ∀ k, F k → k < w.heap.size) (h7 : F b) (h8 : ∀ k, wb vd = some k → F k ∧ k ≠ b ∧ wb vi ≠ some k) (h9 : ∀ k, wb vi = some k → F k ∧ k ≠ b) (h10 : ∀ x ∈ D, PartF w F x) (h11 : InsF w F b vd vi I)
    (hl : l ≠ []) (hne : ∀ o, m.ins.getLast? = some o → ¬ o.s = s)
    (y1 : Below w.heap.size w w1) (o1 : OwI32 w1 w.heap.size (.slice A1 l.length c1) l) (y2 : Below w1.heap.size w1 w2) (o2 : OwAt w2 w1.heap.size (.slice A2 s.length c2) s) (y3 : Below w2.heap.size w2 w3)
    (ho : OwOs w4 0 vi' (I ++ [insS l s A1 c1 A2 c2])) (hgr : w3.grownBy w4 (wb vi)) (hv : wb vi' = wb vi ∨ wb vi' = some w3.heap.size ∨ (vi' = vi ∧ w4 = w3)) (hsz3 : w3.heap.size = w2.heap.size + 1) :
    ∃ F', Mkr (w4.setCell ⟨b, 1, none⟩ vi') F' b (mkInsert m l s) ∧ Grow w F (w4.setCell ⟨b, 1, none⟩ vi') F' := by
  have y12 := ext_trans y1 y2
  have y13 := ext_trans y12 y3
  have hb := lt_of_some h1
  have hbvi : wb vi ≠ some b := fun e => (h9 b e).2 rfl
  -- w to w4
  have G1 : ∀ j, j < w.heap.size → wb vi ≠ some j → w4.heap[j]? = w.heap[j]? := fun j hj hne => (hgr.block j (Nat.lt_of_lt_of_le hj y13.size) (fun e => hne e.symm)).trans (y13.block j hj)
  have hwb' : ∀ k, wb vi' = some k → wb vi = some k ∨ w.heap.size ≤ k := fun k hk => by
    rcases hv with h | h | ⟨h, _⟩
    · exact .inl (h ▸ hk)
    · rw [h] at hk; injection hk with hk; have := y13.size; exact .inr (by omega)
    · subst h; exact .inl hk
  have hnew1 : ∀ k, wb (.slice A1 l.length c1) = some k → w.heap.size ≤ k ∧ k < w1.heap.size := fun k hk => o1.wb_lt k hk
  have hnew2 : ∀ k, wb (.slice A2 s.length c2) = some k → w1.heap.size ≤ k ∧ k < w2.heap.size := fun k hk => o2.wb_lt k hk
  have hvlt : ∀ k, wb vi = some k → k < w.heap.size := fun k hk => (h3.wb_lt k hk).2
  have hwb2 : ∀ k, wb vi' = some k → wb vi = some k ∨ w2.heap.size ≤ k := fun k hk => by
    rcases hv with h | h | ⟨h, _⟩
    · exact .inl (h ▸ hk)
    · rw [h] at hk; injection hk with hk; exact .inr (by omega)
    · subst h; exact .inl hk
  have s1 := y1.size
  have s2 := y2.size
  have hkeep1 : ∀ k, w.heap.size ≤ k → k < w3.heap.size → w4.heap[k]? = w3.heap[k]? := fun k h1 h2 => hgr.block k h2 (fun e => by have := hvlt k e.symm; omega)
  let F' : Nat → Prop := fun k => k = b ∨ wb vd = some k ∨ wb vi' = some k ∨ wb (.slice A1 l.length c1) = some k
  have hF' : ∀ k, F' k → F k ∨ w.heap.size ≤ k := fun k hk => by
    rcases hk with rfl | hk | hk | hk
    · exact .inl h7
    · exact .inl (h8 k hk).1
    · rcases hwb' k hk with h | h
      · exact .inl (h9 k h).1
      · exact .inr h
    · exact .inr (hnew1 k hk).1
  have gr : Grow w F w4 F' := ⟨hgr.os.trans y13.os, hgr.tape.trans y13.tape, hgr.output.trans y13.output, Nat.le_trans y13.size hgr.size, fun j hj hn => G1 j hj (fun e => hn (h9 j e).1), hF'⟩
  have k1 : OwI32 w4 0 (.slice A1 l.length c1) l := by
    have o3 := (o1.below (ext_trans y2 y3) (Nat.le_refl _)).base_le (B := 0) (Nat.zero_le _)
    exact o3.keep fun k hk => by have := hnew1 k hk; exact hkeep1 k this.1 (by have := (ext_trans y2 y3).size; omega)
  have k2 : OwAt w4 0 (.slice A2 s.length c2) s := by
    have o3 := (o2.below y3 (Nat.le_refl _)).base_le (B := 0) (Nat.zero_le _)
    exact o3.keep fun k hk => by have := hnew2 k hk; exact hkeep1 k (by omega) (by omega)
  have gs := setCell_below (w := w4) b 1 vi' (show F' b from .inl rfl) 0
  refine ⟨F', Mkr.of_store (vd := vd) (vi := vi') (D := D) (I := I ++ [insS l s A1 c1 A2 c2]) (cs := #[vd, vi, .int .i64 m.gone]) ((G1 b hb hbvi).trans h1) ?_ (h2.keep fun k hk => G1 k (h2.wb_lt k hk).2 (h8 k hk).2.2) ho ?_ ?_ ?_ (.inl rfl) ?_ ?_ (fun x hx => (h10 x hx).grow gr) ⟨?_, ?_⟩, gr.trans gs⟩
  · unfold mkInsert; rw [if_neg hl]; rfl
  · unfold mkInsert; rw [if_neg hl]; exact h4
  · unfold mkInsert addI
    rw [if_neg hl]
    show osOf (I ++ [insS l s A1 c1 A2 c2]) = _
    have e : osOf (I ++ [insS l s A1 c1 A2 c2]) = m.ins ++ [opI l s] := by rw [← h5]; simp [osOf, insS]
    rw [e]
    cases hg : m.ins.getLast? with
    | none => rfl
    | some o => simp only; rw [if_neg (hne o hg)]
  · intro k hk
    rcases hk with rfl | hk | hk | hk
    · exact Nat.lt_of_lt_of_le hb gr.size
    · exact Nat.lt_of_lt_of_le (h2.wb_lt k hk).2 gr.size
    · exact (ho.wb_lt k hk).2
    · exact (k1.wb_lt k hk).2
  · intro k hk
    refine ⟨.inr (.inl hk), (h8 k hk).2.1, fun e => ?_⟩
    rcases hwb' k e with h | h
    · exact (h8 k hk).2.2 h
    · have := (h2.wb_lt k hk).2; omega
  · intro k hk
    refine ⟨.inr (.inr (.inl hk)), fun e => ?_⟩
    subst e
    rcases hwb' k hk with h | h
    · exact hbvi h
    · omega
  · intro x hx
    rw [List.dropLast_concat] at hx
    rcases List.eq_nil_or_concat I with h0 | ⟨t, z, h0⟩
    · rw [h0] at hx; cases hx
    · rw [List.concat_eq_append] at h0
      rw [h0] at hx
      rcases List.mem_append.1 hx with hx | hx
      · exact (h11.1 x (by rw [h0]; simpa using hx)).grow gr
      · simp at hx; subst hx
        have hL := h11.2 x (by rw [h0]; simp)
        refine hL.part gr fun k hk => ?_
        obtain ⟨q1, q2, q3, q4⟩ := hL.2.1 k hk
        have hklt := (hL.1.wb_lt k hk).2
        refine ⟨G1 k hklt q4, fun hf => ?_⟩
        rcases hf with h | h | h | h
        · exact q2 h
        · exact q3 h
        · rcases hwb' k h with h | h
          · exact q4 h
          · omega
        · have := (hnew1 k h).1; omega
  · intro x hx
    simp at hx
    subst hx
    refine ⟨k1, fun k hk => ⟨.inr (.inr (.inr hk)), ?_, ?_, ?_⟩, ⟨k2.rd At.enc_len, k2.offF At.enc_len rfl (fun k hk hf => ?_)⟩, ⟨Rd.nil, OffF.zero⟩⟩
    · intro e; subst e; have := (hnew1 k hk).1; omega
    · intro e; have := (h2.wb_lt k e).2; have := (hnew1 k hk).1; omega
    · intro e
      rcases hwb2 k e with h | h
      · have := hvlt k h; have := (hnew1 k hk).1; omega
      · have := (hnew1 k hk).2; omega
    · have hk2 := hnew2 k hk
      rcases hf with h | h | h | h
      · omega
      · have := (h2.wb_lt k h).2; omega
      · rcases hwb2 k h with h | h
        · have := hvlt k h; omega
        · omega
      · have := (hnew1 k h).2; omega

set_option maxRecDepth 100000 in
set_option maxHeartbeats 1600000 in
theorem ins_first (b : Nat) (A A2 : Option Addr) (n c n2 c2 : Nat) (l : List Int) (s : List At) (w : World) (F : Nat → Prop) (m : Mk) (h : Mkr w F b m)
    (hn : n = l.length) (hn2 : n2 = s.length) (r1 : RdI32 w w.heap.size A l) (r2 : RdAt w w.heap.size A2 s) (hb : n ≤ 10000000) (hb2 : n2 ≤ 10000000) (hl : l ≠ []) (h0 : m.ins = []) :
    Calls Tryz.prog 76 #[.pointer (some ⟨b, 0, none⟩), .slice A n c, .slice A2 n2 c2] w (MkOut (mkInsert m l s) w F b) := by
  obtain ⟨vd, vi, D, I, h1, h2, h3, h4, h5, h6, h7, h8, h9, h10, h11⟩ := h
  have hI : I = [] := by
    have e := h5
    rw [h0] at e
    unfold osOf at e
    simpa using e
  subst hI
  obtain ⟨Ai, ci, rfl, hci, hcm⟩ := h3.form
  have hnp : n ≠ 0 := by rw [hn]; intro e; exact hl (List.eq_nil_of_length_eq_zero e)
  have hn0 : ((n : Int) == 0) = false := beq_eq_false_iff_ne.2 (by omega)
  have N := Lib.hid hn
  have N2 := Lib.hid hn2
  have H1 := Lib.hid h1
  have H3 := Lib.hid h3
  have hlt := lt_of_some h1
  obtain ⟨c0, c1, c2'⟩ := box_3 h1
  have hf := box_thaw h1 1
  have HL := Lib.hid hl
  have H5 := Lib.hid h5
  have H0 := Lib.hid h0
  have hpos : 0 < n := by omega
  clear hn hn2 h1 h3 h5 h0 hl hnp
  go_enter Tryz.func76, Tryz.ntmps76
  go_wp2_with (fail)
  go_region_law (first
      | (refine step_fn rfl 155 [.tmp 56] #[47] rfl Tryz.f155 (by kernel_rfl) (by kernel_rfl) (by kernel_rfl) [.slice A n c] (by rfl) (cloneI32_any A n c l w.drew N.out (r1.ext (up_drew (Below.refl _ _))) (by omega)) ?_
         rintro e w1 ⟨A1, k1, rfl, o1, y1⟩
         refine ⟨_, rfl, ?_⟩
         have hb1 := (y1.block b hlt).trans H1.out
         obtain ⟨d0, d1, d2⟩ := box_3 hb1
         have hf1 := box_thaw hb1 1
         have HB1 := Lib.hid hb1
         have O1 := Lib.hid o1
         have Y1 : Hid (Below w.heap.size w w1) := Lib.hid ((up_drew (Below.refl _ _)).trans y1)
         clear hb1 o1 y1)
      | (refine step_fn rfl 143 [.tmp 58] #[36] rfl Tryz.f143 (by kernel_rfl) (by kernel_rfl) (by kernel_rfl) [.slice A2 n2 c2] (by rfl) (copy_any A2 n2 c2 s w1 N2.out (r2.ext Y1.out) (by omega)) ?_
         rintro e w2 ⟨A3, k3, rfl, o2, y2⟩
         refine ⟨_, rfl, ?_⟩
         have hb2 := (y2.block b (lt_of_some HB1.out)).trans HB1.out
         obtain ⟨e0, e1, e2⟩ := box_3 hb2
         have hf2 := box_thaw hb2 1
         have y3 := ext_alloc w2 (.cells #[.int .u8 2, .int .i64 0, .slice A1 l.length k1, .slice A3 s.length k3, .slice none 0 0] 50)
         have hb3 := (y3.block b (lt_of_some hb2)).trans hb2
         obtain ⟨g0, g1, g2⟩ := box_3 hb3
         have hf3 := box_thaw hb3 1
         have HB3 := Lib.hid hb3
         have O2 := Lib.hid o2
         have Y2 := Lib.hid y2
         clear hb2 hb3 o2 y2)
      | (refine step_os (m := [insS l s A1 k1 A3 k3]) rfl (.tmp 55) (.tmp 61) (by rfl) (by rfl) ((H3.out.below Y1.out (Nat.le_refl _)).below (ext_trans Y2.out y3) (Nat.le_refl _)) _ _ 1 1 (by rfl) rfl (rd_one (enc := OpS.enc) (size := 5) w2 _ (insS l s A1 k1 A3 k3) rfl) (by simp) (Nat.zero_le _) ?_
         intro vi' w4 ho hgr hv
         obtain ⟨A', c', hv', _, _⟩ := ho.form
         subst hv'
         have hbv : wb (.slice Ai 0 ci) ≠ some b := fun e => (h9 b e).2 rfl
         have hb4 := (hgr.block b (lt_of_some HB3.out) (fun e => hbv e.symm)).trans HB3.out
         obtain ⟨q0, q1, q2⟩ := box_3 hb4
         have hf4 := box_thaw hb4 1
         have HO := Lib.hid ho
         have HG := Lib.hid hgr
         have HV := Lib.hid hv
         clear ho hgr hv hb4 hbv))
  all_goals go_wp2_with (fail)
  all_goals
    refine bodyPost_ret (results_none rfl _ _ _) rfl ?_
    refine ⟨rfl, ins_new_mk H1.out h2 H3.out h4 H5.out h6 h7 h8 h9 h10 h11 HL.out (fun o ho => by rw [H0.out] at ho; cases ho) Y1.out O1.out Y2.out O2.out y3 HO.out HG.out ?_ (by simp)⟩
    rcases HV.out with ⟨h, h'⟩ | h | h
    · exact .inr (.inr ⟨h, h'⟩)
    · exact .inl h
    · exact .inr (.inl h)
end Go.Proofs.YtfnkjcodcoehcaaGreatDoor
namespace Go.Proofs.YtfnkjcodcoehcaaGreatDoor
open Go.RowKit
set_option linter.unusedVariables false
set_option linter.unusedSimpArgs false

/-- the last op of an own row of ops -/
theorem own_last {w : World} {base c : Nat} {A : Option Addr} {I : List OpS} {o : Opd} (h : OwOs w base (.slice A I.length c) I) (ho : (osOf I).getLast? = some o) :
    ∃ (g : Nat) (x : OpS), 0 < I.length ∧ A = some ⟨g, 0, none⟩ ∧ I.getLast? = some x ∧ x.o = o ∧ I = I.dropLast ++ [x] ∧
      (∃ cur, w.heap[g]? = some (.cells cur 50 (0, 0))) ∧ CellsAt w ⟨g, (I.length - 1) * 5, none⟩ x.enc := by
  rcases List.eq_nil_or_concat I with h0 | ⟨t, x, h0⟩
  · subst h0; cases ho
  · rw [List.concat_eq_append] at h0
    have hlen : I.length = t.length + 1 := by rw [h0]; simp
    obtain ⟨g, cur, hA, _, _, hg, _, _, _, _⟩ := h.row (by omega)
    have hi : t.length < I.length := by omega
    obtain ⟨ad, hA2, _, hc⟩ := (h.rd OpS.enc_len).at_ hi
    rw [hA] at hA2
    injection hA2 with hA2
    subst hA2
    rw [add_row] at hc
    have hx : I[t.length] = x := by simp [h0]
    rw [hx] at hc
    refine ⟨g, x, by omega, hA, by rw [h0]; simp, ?_, by rw [h0]; simp, ⟨cur, hg⟩, by rw [hlen, Nat.add_sub_cancel]; exact hc⟩
    rw [h0] at ho
    simpa [osOf] using ho

set_option maxRecDepth 100000 in
set_option maxHeartbeats 1600000 in
theorem ins_more (b : Nat) (A A2 : Option Addr) (n c n2 c2 : Nat) (l : List Int) (s : List At) (w : World) (F : Nat → Prop) (m : Mk) (h : Mkr w F b m)
    (hn : n = l.length) (hn2 : n2 = s.length) (r1 : RdI32 w w.heap.size A l) (r2 : RdAt w w.heap.size A2 s) (hb : n ≤ 10000000) (hb2 : n2 ≤ 10000000) (hl : l ≠ []) (o : Opd) (h0 : m.ins.getLast? = some o) (hne : ¬ o.s = s)
    (hmb : m.ins.length ≤ 10000000) (hob : o.s.length ≤ 10000000) :
    Calls Tryz.prog 76 #[.pointer (some ⟨b, 0, none⟩), .slice A n c, .slice A2 n2 c2] w (MkOut (mkInsert m l s) w F b) := by
  obtain ⟨vd, vi, D, I, h1, h2, h3, h4, h5, h6, h7, h8, h9, h10, h11⟩ := h
  obtain ⟨Ai, ci, rfl, hci, hcm⟩ := h3.form
  obtain ⟨g, x, hN0, hAi, hx, hxo, hI, ⟨cur, hg⟩, hcx⟩ := own_last h3 (by rw [h5]; exact h0)
  subst hAi
  have hml : I.length ≤ 10000000 := by rw [← h5] at hmb; simpa [osOf] using hmb
  have hnp : n ≠ 0 := by rw [hn]; intro e; exact hl (List.eq_nil_of_length_eq_zero e)
  have hn0 : ((n : Int) == 0) = false := beq_eq_false_iff_ne.2 (by omega)
  have N := Lib.hid hn
  have N2 := Lib.hid hn2
  have H1 := Lib.hid h1
  have H3 := Lib.hid h3
  have hlt := lt_of_some h1
  obtain ⟨c0, c1, c2'⟩ := box_3 h1
  have hf := box_thaw h1 1
  have HL := Lib.hid hl
  have H5 := Lib.hid h5
  have H0 := Lib.hid h0
  have HNE := Lib.hid hne
  have hpos : 0 < n := by omega
  have hL := h11.2 x hx
  obtain ⟨⟨k, nn, r, sx, p⟩, Ar, cr, As, cs, Ap, cp⟩ := x
  obtain ⟨z0, z1, z2, z3, z4⟩ := op_cells hcx
  have hs : o.s = sx := by rw [← hxo]
  have RS := Lib.hid hL.2.2.1.1
  have SL := Lib.hid (show sx.length ≤ 10000000 by rw [← hs]; exact hob)
  have hfn : decide (sx = s) = false := by rw [← hs]; exact decide_eq_false hne
  have HX := Lib.hid hx
  have HI := Lib.hid hI
  have e1 : (1 : Int) ≤ (I.length : Int) := by omega
  clear hn hn2 h1 h3 h5 h0 hl hnp hL hx hI hne hcx
  go_enter Tryz.func76, Tryz.ntmps76
  go_wp2_with (go_at_call 141; refine (attrsSame_any As A2 sx.length n2 cs c2 sx s _ rfl N2.out RS.out r2 (by have := SL.out; omega) (by omega)).mono ?_; rintro e w1 ⟨rfl, q, rfl⟩)
  have YQ : Hid (Below w.heap.size w (w.drewN q).drew) := Lib.hid (up_drew (ext_drew w q))
  go_region_law (first
      | (refine step_fn rfl 155 [.tmp 56] #[47] rfl Tryz.f155 (by kernel_rfl) (by kernel_rfl) (by kernel_rfl) [.slice A n c] (by rfl) (cloneI32_any A n c l (w.drewN q).drew N.out (r1.ext YQ.out) (by omega)) ?_
         rintro e w1 ⟨A1, k1, rfl, o1, y1⟩
         refine ⟨_, rfl, ?_⟩
         have hb1 := (y1.block b hlt).trans H1.out
         obtain ⟨d0, d1, d2⟩ := box_3 hb1
         have hf1 := box_thaw hb1 1
         have HB1 := Lib.hid hb1
         have O1 := Lib.hid o1
         have Y1 : Hid (Below w.heap.size w w1) := Lib.hid (YQ.out.trans y1)
         clear hb1 o1 y1)
      | (refine step_fn rfl 143 [.tmp 58] #[36] rfl Tryz.f143 (by kernel_rfl) (by kernel_rfl) (by kernel_rfl) [.slice A2 n2 c2] (by rfl) (copy_any A2 n2 c2 s w1 N2.out (r2.ext Y1.out) (by omega)) ?_
         rintro e w2 ⟨A3, k3, rfl, o2, y2⟩
         refine ⟨_, rfl, ?_⟩
         have hb2 := (y2.block b (lt_of_some HB1.out)).trans HB1.out
         obtain ⟨e0, e1, e2⟩ := box_3 hb2
         have hf2 := box_thaw hb2 1
         have y3 := ext_alloc w2 (.cells #[.int .u8 2, .int .i64 0, .slice A1 l.length k1, .slice A3 s.length k3, .slice none 0 0] 50)
         have hb3 := (y3.block b (lt_of_some hb2)).trans hb2
         obtain ⟨g0, g1, g2⟩ := box_3 hb3
         have hf3 := box_thaw hb3 1
         have HB3 := Lib.hid hb3
         have O2 := Lib.hid o2
         have Y2 := Lib.hid y2
         clear hb2 hb3 o2 y2)
      | (refine step_os (m := [insS l s A1 k1 A3 k3]) rfl (.tmp 55) (.tmp 61) (by rfl) (by rfl) ((H3.out.below Y1.out (Nat.le_refl _)).below (ext_trans Y2.out y3) (Nat.le_refl _)) _ _ 1 1 (by rfl) rfl (rd_one (enc := OpS.enc) (size := 5) w2 _ (insS l s A1 k1 A3 k3) rfl) (by simp only [List.length_singleton]; omega) (Nat.zero_le _) ?_
         intro vi' w4 ho hgr hv
         obtain ⟨A', c', hv', _, _⟩ := ho.form
         subst hv'
         have el : (I ++ [insS l s A1 k1 A3 k3]).length = I.length + 1 := by simp
         rw [el] at ho hv
         have hbv : wb (.slice (some ⟨g, 0, none⟩) I.length ci) ≠ some b := fun e => (h9 b e).2 rfl
         have hb4 := (hgr.block b (lt_of_some HB3.out) (fun e => hbv e.symm)).trans HB3.out
         obtain ⟨q0, q1, q2⟩ := box_3 hb4
         have hf4 := box_thaw hb4 1
         have HO := Lib.hid ho
         have HG := Lib.hid hgr
         have HV := Lib.hid hv
         clear ho hgr hv hb4 hbv))
  all_goals go_wp2_with (fail)
  all_goals
    refine bodyPost_ret (results_none rfl _ _ _) rfl ?_
    refine ⟨rfl, ins_new_mk H1.out h2 H3.out h4 H5.out h6 h7 h8 h9 h10 h11 HL.out (fun o' ho => by rw [H0.out] at ho; injection ho with ho; rw [← ho]; exact HNE.out) Y1.out O1.out Y2.out O2.out y3 HO.out HG.out ?_ (by simp)⟩
    rcases HV.out with ⟨h, h'⟩ | h | h
    · exact .inr (.inr ⟨h, h'⟩)
    · exact .inl h
    · exact .inr (.inl h)
end Go.Proofs.YtfnkjcodcoehcaaGreatDoor
