/- Merged texts. -/
import Derived.Test.YtnmedachaeanbaaGreatDoorA15
namespace Go.Proofs.YtnmedachaeanbaaGreatDoor
set_option maxRecDepth 100000
set_option maxHeartbeats 3200000
open Go.RowKit Go.Shelf
open Go.Lib (hid Utf8Tabs)
set_option linter.unusedVariables false
set_option linter.unusedSimpArgs false
theorem Y4n {F : Fence} {nF : Nat} {ops : Array Oper} {rest : List Oper} {o : Oper} {a : Act} {w : World} {Q : Exit → Act → World → Prop} {base : Nat} {v : Value} {l m : List ClS} (hgd : o.guard = none) (s x : Operand)
 (ho : o.op = .call { callee := .builtin .append, args := #[s, x], argTypes := #[23, 23] })
 (hsv : a.eval s = v) (hown : OwCs w base v l) (B : Nat) (A : Option Addr) (c n : Nat) (hx : a.eval x = .slice A n c) (hn : n = m.length) (hr : RdCs w B A m)
 (hb : l.length + m.length ≤ 2000000000000) (hbase : base ≤ w.heap.size)
 (h : ∀ v' w', OwCs w' base v' (l ++ m) → w.grownBy w' (wb v) → (v' = v ∧ w' = w ∨ wb v' = wb v ∨ wb v' = some w.heap.size) → wpListIn F nF Tryz.prog ops Q rest (a.put o.dst v') w') : wpListIn F nF Tryz.prog ops Q (o :: rest) a w := by
 obtain ⟨i0, hi0, hz0, hz1, hz2⟩ := info_parts Tryz.infoCl
 obtain ⟨v', w', hrun, h2, h3, h4⟩ := Y1P (P := Tryz.prog) 23 o.type i0 _ 32 Tryz.slCl hi0 hz0 hz1 hz2 rfl (by omega) ClS.enc_len ClS.enc_one hown B A c n hn hr (by simp only [maxLen]; omega) (by omega) hbase
 refine wpListIn_plain hgd fun K hK' => ?_
 unfold Oper.wpIn
 refine ⟨?_, ?_⟩
 ·simp [Oper.about, ho, resolve, Target.leads, Sem.run_pure]
 ·rw [Oper.semAt_plain F _ _ (by rw [ho]; intro c hc'; cases hc')]
  simp [execOp, ho, resolve, invoke, builtin, hsv, hx, hrun, Result.andThen]
  exact hK' _ _ (h v' w' h2 h3 h4)
def ApI (w0 : World) (m : Nat) (p : List Cl) (G : Nat → Prop) (W : World) : Prop :=
 ∃ v L, W.heap[m]? = some (.cells #[v] 23 (0, 0)) ∧ Z0i L = p ∧ OwCs W (m + 6) v L ∧ (∀ z ∈ L, PartC W w0.heap.size v z ∧ ∀ k, wb (.slice z.As z.c.s.length z.cs) = some k → k ≠ m ∧ k ≠ m + 2 ∧ k ≠ m + 4 ∧ k ≠ m + 5) ∧
   Below w0.heap.size w0 W ∧ ∀ k, G k ↔ k = m ∨ wb v = some k
theorem ApI.keep {w0 A B : World} {m : Nat} {p : List Cl} {G : Nat → Prop} (hm : w0.heap.size ≤ m) (h : ApI w0 m p G A) (g : Grow A (fun k => k = m + 4 ∨ k = m + 4 + 1 ∨ k = m + 2) B (fun k => k = m + 4 ∨ k = m + 4 + 1 ∨ k = m + 2)) : ApI w0 m p G B := by
 obtain ⟨v, L, hb, hL, ho, hp, y, hG⟩ := h
 refine ⟨v, L, (g.block m (Z0b hb) (by omega)).trans hb, hL, ho.keep fun k hk => g.block k (ho.wb_lt k hk).2 (by have := (ho.wb_lt k hk).1; omega), fun z hz => ?_, y.trans (g.below (fun k hk => by omega) y.size), hG⟩
 obtain ⟨hz1, hz2⟩ := hp z hz
 exact ⟨⟨hz1.1.keep fun k hk => g.block k (hz1.1.wb_lt k hk).2 (by have := hz2 k hk; omega), hz1.2⟩, hz2⟩
theorem ApI.foot {w0 A : World} {m : Nat} {p : List Cl} {G : Nat → Prop} (hm : w0.heap.size ≤ m) (h : ApI w0 m p G A) : ∀ k, G k → k < A.heap.size ∧ (k = m ∨ m + 6 ≤ k) := fun k hk => by
 obtain ⟨v, L, hb, hL, ho, hp, y, hG⟩ := h
 rcases (hG k).1 hk with rfl | h1
 ·exact ⟨Z0b hb, .inl rfl⟩
 ·exact ⟨(ho.wb_lt k h1).2, .inr (ho.wb_lt k h1).1⟩
theorem ApI.app {w0 W W2 w3 : World} {m : Nat} {p : List Cl} {G : Nat → Prop} {v v' : Value} {L : List ClS} {z : ClS} (hm : w0.heap.size ≤ m) (hb : W.heap[m]? = some (.cells #[v] 23 (0, 0))) (hL : Z0i L = p) (ho : OwCs W (m + 6) v L)
 (hp : ∀ z ∈ L, PartC W w0.heap.size v z ∧ ∀ k, wb (.slice z.As z.c.s.length z.cs) = some k → k ≠ m ∧ k ≠ m + 2 ∧ k ≠ m + 4 ∧ k ≠ m + 5) (y : Below w0.heap.size w0 W) (hG : ∀ k, G k ↔ k = m ∨ wb v = some k)
 (hz : OwAt W w0.heap.size (.slice z.As z.c.s.length z.cs) z.c.s) (hzo : ∀ k, wb (.slice z.As z.c.s.length z.cs) = some k → ¬ Un2 G (m + 4) k ∧ k ≠ m + 2) (hs : m + 6 ≤ W.heap.size)
 (y2 : Below W.heap.size W W2) (hgr : W2.grownBy w3 (wb v)) (hown' : OwCs w3 (m + 6) v' (L ++ [z])) (hv' : v' = v ∧ w3 = W2 ∨ wb v' = wb v ∨ wb v' = some W2.heap.size) :
 w3.heap[m]? = some (.cells #[v] 23 (0, 0)) ∧ ∃ G', ApI w0 m (p ++ [z.c]) G' (w3.setCell ⟨m, 0, none⟩ v') ∧ Grow W G (w3.setCell ⟨m, 0, none⟩ v') G' := by
 have b2 := (y2.block m (Z0b hb)).trans hb
 have nm : wb v ≠ some m := fun e => by have := (ho.wb_lt m e).1; omega
 have b3 := (hgr.block m (Z0b b2) (fun e => nm e.symm)).trans b2
 refine ⟨b3, fun k => k = m ∨ wb v' = some k, ?_, ?_⟩
 ·have b4 := Z0j (j := 0) b3 v'
  have gs := Z0m (w := w3) m 0 v' (F := fun k => k = m) rfl 0
  have nm' : wb v' ≠ some m := fun e => by have := (hown'.wb_lt m e).1; omega
  refine ⟨v', L ++ [z], by simpa using b4, ?_, hown'.setCell (p := ⟨m, 0, none⟩) nm' v', ?_, ?_, fun _ => Iff.rfl⟩
  ·rw [← hL]; unfold Z0i; simp
  ·intro x hx
   have hx2 : PartC W w0.heap.size v x ∧ ∀ k, wb (.slice x.As x.c.s.length x.cs) = some k → k ≠ m ∧ k ≠ m + 2 ∧ k ≠ m + 4 ∧ k ≠ m + 5 := by
    rcases List.mem_append.1 hx with hx | hx
    ·exact hp x hx
    ·simp at hx; subst hx
     refine ⟨⟨hz, fun k hk e => (hzo k hk).1 (.inl ((hG k).2 (.inr e)))⟩, fun k hk => ⟨fun e => (hzo k hk).1 (.inl ((hG k).2 (.inl e))), (hzo k hk).2, fun e => (hzo k hk).1 (.inr (.inl e)), fun e => (hzo k hk).1 (.inr (.inr (by omega)))⟩⟩
   have h3 := (hx2.1.below y2).app hgr hv'
   exact ⟨⟨h3.1.setCell (p := ⟨m, 0, none⟩) (fun e => (hx2.2 m e).1 rfl) v', h3.2⟩, hx2.2⟩
  ·have y3 : Below w0.heap.size w0 w3 := (y.trans (y2.mono y.size)).grown hgr (by have := y.size; have := y2.size; omega) (fun k e => by have := (ho.wb_lt k e).1; omega)
   exact y3.trans (gs.below (fun k hk => by omega) y3.size)
 ·have gs := Z0m (w := w3) m 0 v' (F := fun k => k = m ∨ wb v' = some k) (.inl rfl) 0
  have g3 : Grow W G w3 (fun k => k = m ∨ wb v' = some k) := ⟨hgr.os.trans y2.os, hgr.tape.trans y2.tape, hgr.output.trans y2.output, Nat.le_trans y2.size hgr.size,
   fun j hj hn => (hgr.block j (Nat.lt_of_lt_of_le hj y2.size) (fun e => hn ((hG j).2 (.inr e.symm)))).trans (y2.block j hj),
   fun k hk => by
    rcases hk with rfl | hk
    ·exact .inl ((hG _).2 (.inl rfl))
    ·rcases hv' with ⟨rfl, _⟩ | h1 | h1
     ·exact .inl ((hG k).2 (.inr hk))
     ·exact .inl ((hG k).2 (.inr (by rw [← h1]; exact hk)))
     ·rw [h1] at hk; injection hk with hk; have := y2.size; exact .inr (by omega)⟩
  exact g3.trans gs
theorem Z6c (n : Nat) (p : List Ch) (us : List Un) : Z0k (List.replicate n (.ret p) ++ us) = n + Z0k us := by rw [Z0A, Z1U]
theorem Z8q (n : Nat) (p : List Ch) (us : List Un) : Z0l (List.replicate n (.ret p) ++ us) = n + Z0l us := by rw [Z0I, Z2Q]
theorem Z7E (l : List Ky) : mayP l [] = 0 := by simp [mayP, Z1S, rise]
def okUn : Un → Prop
 | .ins r s => okVr s
 | .del => True
 | .ret p => okVs p
theorem Y4o {p : List Ch} {a : List At} (a1 : Z1D a = true) (p1 : Z1S p = true) (va : okVr a) (vp : okVs p) : okVr (Z0K p a) := fun c hc => by
 obtain ⟨d1, d2, _⟩ := Z1x (Z0G.1 p1) (Z0P.1 a1)
 have h1 := Z5Z At.key d1 hc
 rw [d2] at h1
 cases hy : lk Ch.key p c.key with
 | none =>
   rw [hy] at h1
   have h1 : lk At.key a c.key = some c := h1
   exact va c (Z5Y At.key h1)
 | some y =>
   rw [hy] at h1
   simp only [Z2C] at h1
   by_cases hg : y.gone = true
   ·rw [if_pos hg] at h1; cases h1
   ·rw [if_neg hg] at h1
    simp only [Option.some.injEq] at h1
    rw [← h1]
    exact (vp y (Z5Y Ch.key hy)).1
theorem Y63 {l : List Ky} {c : Cl} {p : List Ch} (hs : mayS l c.s = 0) (hp : mayP l p = 0) (va : okVr c.s) (vp : okVs p) : okVr (actC l c p).s := by
 obtain ⟨_, a1, _⟩ := Z1K hs
 obtain ⟨_, p1, _⟩ := Z0X (Z3U (fun x => Z1v l (c.r == 10) x.key) hp)
 exact Y4o a1 p1 va (Z8n _ vp)
theorem Y0g {l : List Ky} : ∀ (us : List Un) (d : List Cl), (∀ u ∈ us, vU l u ∧ okUn u) → (∀ c ∈ d, okCl l c ∧ okVr c.s) → ∀ c ∈ app l us d, okVr c.s
 | [], d, _, hd => fun c hc => (hd c hc).2
 | .ins r s :: us, d, hu, hd => by
   intro c hc
   rcases List.mem_cons.1 hc with rfl | hc
   ·exact (hu (.ins r s) (by simp)).2
   ·exact Y0g us d (fun u h => hu u (List.mem_cons_of_mem _ h)) hd c hc
 | .del :: us, d, hu, hd => Y0g us (d.drop 1) (fun u h => hu u (List.mem_cons_of_mem _ h)) (fun c hc => hd c (List.mem_of_mem_drop hc))
 | .ret p :: us, d, hu, hd => by
   intro c hc
   rcases List.mem_append.1 hc with hc | hc
   ·obtain ⟨x, hx, rfl⟩ := List.mem_map.1 hc
    have hx2 := hd x (List.mem_of_mem_take hx)
    have h3 := hu (.ret p) (by simp)
    exact Y63 hx2.1.2.1 h3.1 hx2.2 h3.2
   ·exact Y0g us (d.drop 1) (fun u h => hu u (List.mem_cons_of_mem _ h)) (fun c hc => hd c (List.mem_of_mem_drop hc)) c hc
theorem Z9k {o : Opd} (h : okOp o) : ∀ u ∈ Z0h o, okUn u := fun u hu => by
 unfold Z0h at hu
 by_cases h2 : o.k = 2
 ·rw [if_pos h2] at hu
  obtain ⟨r, _, rfl⟩ := List.mem_map.1 hu
  exact h.1
 ·rw [if_neg h2] at hu
  by_cases h1 : o.k = 1
  ·rw [if_pos h1] at hu
   rw [(List.mem_replicate.1 hu).2]; exact h.2.1
  ·rw [if_neg h1] at hu
   rw [(List.mem_replicate.1 hu).2]; trivial
def Z00 (l : List Ky) (x : List OpS) (d : List Cl) (most : Int) : Int :=
 if mayO l x ≠ 0 then mayO l x else if mayD l d ≠ 0 then 3 else Z3g l x (d.length : Int) most
theorem Z2j {l : List Ky} {x : List OpS} {d : List Cl} {most : Int} (h : Z00 l x d most = 0) : mayD l d = 0 ∧ Z3g l x (d.length : Int) most = 0 := by
 unfold Z00 at h
 by_cases h1 : mayO l x = 0
 ·rw [if_neg (by simpa using h1)] at h
  by_cases h2 : mayD l d = 0
  ·rw [if_neg (by simpa using h2)] at h
   exact ⟨h2, h⟩
  ·rw [if_pos h2] at h; cases h
 ·rw [if_pos h1] at h; exact absurd h h1
theorem Z2k {l : List Ky} {x : List OpS} {d : List Cl} {most : Int} (h1 : mayD l d = 0) (h2 : Z3g l x (d.length : Int) most = 0) : Z00 l x d most = 0 := by
 obtain ⟨h3, _⟩ := Z10 h2
 unfold Z00
 rw [if_neg (by simpa using h3), if_neg (by simpa using h1), h2]
structure Came (l : List Ky) (us : List Un) (d : List Cl) (o : List Cl) : Prop where
 eq : o = app l us d
 may : mayD l o = 0
 len : o.length + Z0k us = d.length + Z0l us
 s64 : ∀ c ∈ o, c.s.length ≤ 64
 vr : ∀ c ∈ o, okVr c.s
theorem came {l : List Ky} {x : List OpS} {d : List Cl} {most : Nat} (hl : l.length ≤ 64) (hx : x.length ≤ 1048576) (hmo : most ≤ 536870912) (ho : ∀ o ∈ x, okOp o.o) (hd : ∀ c ∈ d, okVr c.s) (h : Z00 l x d most = 0) :
 goodO l x ∧ FitU l (Z0e (osOf x)) d.length most ∧ Came l (Z0e (osOf x)) d (app l (Z0e (osOf x)) d) := by
 obtain ⟨h1, h2⟩ := Z2j h
 obtain ⟨hg, hf⟩ := Z6V hx (by omega) h2
 have hm := hf.m
 have hb : d.length + Z0l (Z0e (osOf x)) ≤ 536870912 + Z0k (Z0e (osOf x)) := by omega
 have hmay := Y4g hl h1 hf hb
 obtain ⟨_, hok, _⟩ := Z3D.1 hmay
 obtain ⟨_, hdk, _⟩ := Z3D.1 h1
 refine ⟨hg, hf, rfl, hmay, Z17 _ _ _ hf.t, fun c hc => (Z1K (hok c hc).2.1).1, Y0g _ _ (fun u hu => ⟨hf.v u hu, ?_⟩) (fun c hc => ⟨hdk c hc, hd c hc⟩)⟩
 obtain ⟨o, hom, hu⟩ := Z11.1 hu
 exact Z9k (ho o hom) u hu
theorem Z9l {o : Opd} (h : isOp o) : Z0l (Z0h o) ≤ o.r.length + Z0k (Z0h o) := by
 rcases Z0q h with hk | hk | hk
 ·obtain ⟨e, hr⟩ := Z18 h hk
  have hu : Z0h o = o.r.map (fun r => Un.ins r o.s) := by unfold Z0h; rw [if_pos hk]
  rw [hu, Y1k]; omega
 ·have hu : Z0h o = List.replicate o.n.toNat .del := by unfold Z0h; rw [if_neg (by rw [hk]; decide), if_neg (by rw [hk]; decide)]
  have hm : ∀ n, Z0l (List.replicate n Un.del) = 0 := fun n => by
   induction n with
   | zero => rfl
   | succ n ih => rw [List.replicate_succ, Z2x, ih]
  rw [hu, hm]; omega
 ·have hu : Z0h o = List.replicate o.n.toNat (.ret o.p) := by unfold Z0h; rw [if_neg (by rw [hk]; decide), if_pos hk]
  rw [hu, Z2Q, Z1U]; omega
open Go.RowKit
theorem Y64 {d : List ClS} {x : ClS} (h : d[d.length - 1]? = some x) : (Z0i d).getLast? = some x.c := by
 rw [List.getLast?_eq_getElem?]
 unfold Z0i
 rw [List.length_map, List.getElem?_map, h]
 rfl
theorem Z48 (s : Nat) (l : List Ky) (A : Option Addr) (n c : Nat) (d : List ClS) (w : World) (hn : n = d.length) (h : RdCl w w.heap.size A d) (hb : n ≤ 100000) (hS : Sch w s l)
 (hcs : ∀ x ∈ d, x.c.s.length ≤ 100000000 ∧ okVr x.c.s) (hT : Utf8Tabs 0 1 w) :
 Calls Tryz.prog 10 #[.pointer (some ⟨s, 0, none⟩), .slice A n c] w fun e w' => e = .returned (.int .i64 (mayD l (Z0i d))) ∧ Below w.heap.size w w' := by
 have ya := Z0c w (.cells #[.pointer (some ⟨s, 0, none⟩)] 29)
 have yb := Z0c (w.alloc (.cells #[.pointer (some ⟨s, 0, none⟩)] 29)) (.cells #[.slice A n c] 23)
 have g1 := heap_alloc_new w (.cells #[.pointer (some ⟨s, 0, none⟩)] 29)
 have g2 := heap_alloc_new (w.alloc (.cells #[.pointer (some ⟨s, 0, none⟩)] 29)) (.cells #[.slice A n c] 23)
 have G1 := (yb.block w.heap.size (by simp)).trans g1
 rw [World.size_alloc] at g2
 have y := Z0a ya yb
 have k1 : ∀ w', Below ((w.alloc (.cells #[.pointer (some ⟨s, 0, none⟩)] 29)).alloc (.cells #[.slice A n c] 23)).heap.size ((w.alloc (.cells #[.pointer (some ⟨s, 0, none⟩)] 29)).alloc (.cells #[.slice A n c] 23)) w' →
  Below w.heap.size w w' ∧ RdCs w' w'.heap.size A d ∧ (∀ x ∈ d, ClIn w' w.heap.size s l x) ∧ w'.heap[w.heap.size + 1]? = some (.cells #[.slice A n c] 23 (0, 0)) := fun w' z => by
  have yz := Z0a y z
  have g1' := (z.block w.heap.size (Z0b G1)).trans G1
  exact ⟨yz, h.1.ext yz, fun x hx => ⟨hS.ext yz, g1', (h.2 x hx).ext yz, (hcs x hx).1, (hcs x hx).2, Utf8Tabs_below hT yz⟩, (z.block _ (Z0b g2)).trans g2⟩
 have K := hid k1
 have N := hid hn
 have c0 := Z2u g2
 have hsz : Hid (((w.alloc (.cells #[.pointer (some ⟨s, 0, none⟩)] 29)).alloc (.cells #[.slice A n c] 23)).heap.size = w.heap.size + 2) := hid (by simp)
 have HH := hid h
 generalize hm : mayD l (Z0i d) = m
 unfold mayD at hm
 have hlen : (Z0i d).length = n := by rw [hn]; unfold Z0i; rw [List.length_map]
 rw [hlen] at hm
 clear ya yb g1 g2 G1 k1 hS hcs hT h
 by_cases h1 : n < 1
 ·rw [if_pos (.inl h1)] at hm
  subst hm
  have h2 : ((n : Int) < 1) := by omega
  clear hlen hn
  go_enter Tryz.func10, Tryz.ntmps10
  go_wp2_with (fail)
  go_ret
  exact ⟨rfl, y⟩
 ·rw [if_neg (by omega)] at hm
  have h2 : ¬ ((n : Int) < 1) := by omega
  obtain ⟨x, hx⟩ : ∃ x, d[d.length - 1]? = some x := ⟨d[d.length - 1]'(by omega), by rw [List.getElem?_eq_getElem]⟩
  have hlast := Y64 hx
  rw [hlast] at hm
  have HM := hid hm
  have HX := hid hx
  have e1 : (1 : Int) ≤ (n : Int) := by omega
  have e2 : (n : Int) - 1 < (n : Int) := by omega
  have hnd : n - 1 = d.length - 1 := by rw [hn]
  have HND := hid hnd
  clear hm hlen hlast hx hnd hn
  go_enter Tryz.func10, Tryz.ntmps10
  go_wp2_with (go_at_call 48; refine Hid.out ?_)
  refine hid ?_
  obtain ⟨_, q1, q2, q3⟩ := K.out _ (Below.refl _ _)
  refine (Y1f w.heap.size (w.heap.size + 1) s l A n c d _ N.out q1 (by omega) q2 q3).mono ?_
  clear q1 q2 q3
  rintro e w1 ⟨rfl, y1⟩
  cases ha : (Z0i d).any (badR l) with
  | true =>
    have hm := HM.out
    rw [if_pos ha] at hm
    subst hm
    clear ha
    have yy := Z0a y y1
    go_wp2_with (fail)
    go_ret
    exact ⟨rfl, yy⟩
  | false =>
    have hm := HM.out
    rw [if_neg (by rw [ha]; simp)] at hm
    have HM2 := hid hm
    clear ha hm HM
    go_wp2_with (go_at_call 48; refine Hid.out ?_)
    refine hid ?_
    obtain ⟨_, q1, q2, q3⟩ := K.out w1 y1
    refine (Y1g w.heap.size (w.heap.size + 1) s l A n c d _ N.out q1 (by omega) q2 q3).mono ?_
    clear q1 q2 q3
    rintro e w2 ⟨rfl, y2⟩
    have y12 := Z0a y1 y2
    obtain ⟨yy, q1, q2, q3⟩ := K.out w2 y12
    cases ha : (Z0i d).any (badK l) with
    | true =>
      have hm := HM2.out
      rw [if_pos ha] at hm
      subst hm
      clear ha q1 q2 q3
      go_wp2_with (fail)
      go_ret
      exact ⟨rfl, yy⟩
    | false =>
      have hm := HM2.out
      rw [if_neg (by rw [ha]; simp)] at hm
      obtain ⟨ad, x', rfl, _, _, hx', hcx⟩ := q1.el (i := d.length - 1) (by have := N.out; omega)
      rw [HX.out] at hx'
      injection hx' with hx'
      subst hx'
      obtain ⟨⟨r, p⟩, As, cs⟩ := x
      rw [← HND.out] at hcx
      obtain ⟨z0, z1⟩ := Z1I hcx
      have d0 := Z2u q3
      have HM3 := hid hm
      clear ha hm q1 q2 q3 hcx HM2
      by_cases hr : r = 10
      ·subst hr
       have hm := HM3.out
       rw [if_neg (by simp)] at hm
       have HM4 := hid hm
       clear hm HM3
       go_wp2_with (go_at_call 48; refine Hid.out ?_)
       refine hid ?_
       obtain ⟨_, q1, q2, q3⟩ := K.out w2 y12
       refine (Y1h w.heap.size (w.heap.size + 1) s l _ n c d _ N.out q1 (by omega) q2 q3).mono ?_
       clear q1 q2 q3
       rintro e w3 ⟨rfl, y3⟩
       have yz := (K.out w3 (Z0a y12 y3)).1
       cases ha : (Z0i d).any (badP l) with
       | true =>
         have hm := HM4.out
         rw [if_pos ha] at hm
         subst hm
         clear ha
         go_wp2_with (fail)
         go_ret
         exact ⟨rfl, yz⟩
       | false =>
         have hm := HM4.out
         rw [if_neg (by rw [ha]; simp)] at hm
         subst hm
         clear ha
         go_wp2_with (fail)
         go_ret
         exact ⟨rfl, yz⟩
      ·have hm := HM3.out
       rw [if_pos (by simp [hr])] at hm
       subst hm
       have hne : (r == 10) = false := beq_eq_false_iff_ne.2 hr
       clear hr
       go_wp2_with (fail)
       go_ret
       exact ⟨rfl, yy⟩
attribute [local go_sem] Oper.semAt_some
def Y2L (sc : Nat) (A1 Ax : Option Addr) (n1 c1 nx cx : Nat) (w : World) (e : Ending) (w' : World) : Prop :=
 e = .returned (.func (.func 182) #[] #[.pointer (some ⟨w.heap.size + 2, 0, none⟩), .pointer (some ⟨w.heap.size + 1, 0, none⟩), .pointer (some ⟨w.heap.size, 0, none⟩)]) ∧ Below w.heap.size w w' ∧ w'.heap.size = w.heap.size + 3 ∧
   w'.heap[w.heap.size]? = some (.cells #[.pointer (some ⟨sc, 0, none⟩)] 29 (0, 0)) ∧ w'.heap[w.heap.size + 1]? = some (.cells #[.slice A1 n1 c1] 23 (0, 0)) ∧ w'.heap[w.heap.size + 2]? = some (.cells #[.slice Ax nx cx] 37 (0, 0))
theorem Y4p (sc : Nat) (A1 Ax : Option Addr) (n1 c1 nx cx : Nat) (w : World) :
 Calls Tryz.prog 97 #[.pointer (some ⟨sc, 0, none⟩), .slice A1 n1 c1, .slice Ax nx cx] w (Y2L sc A1 Ax n1 c1 nx cx w) := by
 go_enter Tryz.func97, Tryz.ntmps97
 go_wp2_with (fail)
 go_ret
 have ya := Z0c w (.cells #[.pointer (some ⟨sc, 0, none⟩)] 29)
 have yb := Z0c (w.alloc (.cells #[.pointer (some ⟨sc, 0, none⟩)] 29)) (.cells #[.slice A1 n1 c1] 23)
 have yc := Z0c ((w.alloc (.cells #[.pointer (some ⟨sc, 0, none⟩)] 29)).alloc (.cells #[.slice A1 n1 c1] 23)) (.cells #[.slice Ax nx cx] 37)
 have ha := heap_alloc_new w (.cells #[.pointer (some ⟨sc, 0, none⟩)] 29)
 have hb := heap_alloc_new (w.alloc (.cells #[.pointer (some ⟨sc, 0, none⟩)] 29)) (.cells #[.slice A1 n1 c1] 23)
 have hc := heap_alloc_new ((w.alloc (.cells #[.pointer (some ⟨sc, 0, none⟩)] 29)).alloc (.cells #[.slice A1 n1 c1] 23)) (.cells #[.slice Ax nx cx] 37)
 refine ⟨?_, Z0a ya (Z0a yb yc), by simp, (yc.block _ (Z0b ((yb.block _ (Z0b ha)).trans ha))).trans ((yb.block _ (Z0b ha)).trans ha), ?_, ?_⟩
 ·exact rfl
 ·have h := (yc.block _ (Z0b hb)).trans hb
  simpa using h
 ·simpa using hc
def Y4q (l : List Ky) (x : List OpS) (d : List Cl) (most : Int) (w : World) (e : Ending) (w' : World) : Prop :=
 Below w.heap.size w w' ∧ ((Z00 l x d most ≠ 0 ∧ e = .returned (.tuple #[.slice none 0 0, .int .i64 (Z00 l x d most)])) ∨
  (Z00 l x d most = 0 ∧ ∃ A c L, e = .returned (.tuple #[.slice A L.length c, .int .i64 0]) ∧ Z0i L = app l (Z0e (osOf x)) d ∧ OwCs w' w.heap.size (.slice A L.length c) L ∧ ∀ z ∈ L, PartC w' w.heap.size (.slice A L.length c) z))
theorem Z6Z (sc : Nat) (l : List Ky) (A1 Ax : Option Addr) (n1 c1 nx cx : Nat) (d : List ClS) (x : List OpS) (most : Int) (w : World)
 (hn1 : n1 = d.length) (hnx : nx = x.length) (k1 : n1 ≤ c1) (b1 : n1 ≤ 100000) (bx : nx ≤ 1048576) (h1 : RdCl w w.heap.size A1 d) (hx : RdOp w w.heap.size Ax x) (hS : Sch w sc l)
 (hcs : ∀ z ∈ d, z.c.s.length ≤ 100000000 ∧ okVr z.c.s) (hcap : ∀ z ∈ d, z.c.s.length ≤ z.cs ∧ z.cs ≤ maxLen) (hop : ∀ o ∈ x, okOp o.o) (hT : Utf8Tabs 0 1 w) :
 Calls Tryz.prog 28 #[.pointer (some ⟨sc, 0, none⟩), .slice A1 n1 c1, .slice Ax nx cx, .int .i64 most] w (Y4q l x (Z0i d) most w) := by
 obtain ⟨n, _⟩ : ∃ n : Nat, n = n := ⟨0, rfl⟩
 refine (callsIn_wide (n := n)).1 ?_
 refine callsIn_of_wp_marks Tryz.func28 rfl trivial ?_ rfl
 simp only [Tryz.ntmps28, List.size_toArray, List.length_cons, List.length_nil, Nat.reduceAdd, Nat.reduceSub, Array.replicate_succ, Array.replicate_zero, List.push_toArray, List.append_toArray, List.nil_append, List.cons_append]
 have N1 := hid hn1
 have NX := hid hnx
 have H1 := hid h1
 have HX := hid hx
 have HS := hid hS
 have HCS := hid hcs
 have HCAP := hid hcap
 have HOP := hid hop
 have HT := hid hT
 have K1 := hid k1
 have BX := hid bx
 have B1 := hid b1
 have ND : Hid ((Z0i d).length = n1) := hid (by rw [Z0D, hn1])
 clear hn1 hnx h1 hx hS hcs hcap hop hT k1 bx b1
 gi_wp2
 refine ⟨trivial, fun h => (by cases h), (callsIn_wide.2 (Z5t sc l Ax nx cx x w NX.out HX.out (by have := BX.out; omega) HS.out HOP.out HT.out)).mono ?_⟩
 obtain ⟨eo, heo⟩ : ∃ X, mayO l x = X := ⟨_, rfl⟩
 rw [heo]
 rintro e w1 ⟨rfl, y1⟩
 have EO := hid heo
 have Y1 := hid y1
 clear heo y1
 by_cases h0 : eo = 0
 rotate_left
 ·have h0' : (eo == 0) = false := beq_eq_false_iff_ne.2 h0
  gi_wp2
  refine ⟨.tuple #[.slice none 0 0, .int .i64 eo], (by simp [results, Tryz.results28, go_sem]), Y1.out, .inl ⟨?_, ?_⟩⟩
  all_goals rw [show Z00 l x (Z0i d) most = eo by unfold Z00; rw [EO.out, if_pos h0]]
  exact h0
 subst h0
 gi_wp2
 refine ⟨trivial, fun h => (by cases h), (callsIn_wide.2 (Z48 sc l A1 n1 c1 d w1 N1.out (H1.out.ext Y1.out) B1.out (HS.out.ext Y1.out) HCS.out (Utf8Tabs_below HT.out Y1.out))).mono ?_⟩
 obtain ⟨ed, hed⟩ : ∃ X, mayD l (Z0i d) = X := ⟨_, rfl⟩
 rw [hed]
 rintro e w2 ⟨rfl, y2⟩
 have ED := hid hed
 have Y2 := hid (Z0a Y1.out y2)
 clear hed y2
 by_cases h0 : ed = 0
 rotate_left
 ·have h0' : (ed == 0) = false := beq_eq_false_iff_ne.2 h0
  gi_wp2
  refine ⟨.tuple #[.slice none 0 0, .int .i64 3], (by simp [results, Tryz.results28, go_sem]), Y2.out, .inl ⟨?_, ?_⟩⟩
  all_goals rw [show Z00 l x (Z0i d) most = 3 by unfold Z00; rw [EO.out, ED.out, if_neg (by decide), if_pos h0]]
  decide
 subst h0
 gi_wp2
 refine ⟨trivial, fun h => (by cases h), (callsIn_wide.2 (Y2u sc l Ax nx cx x n1 most w2 NX.out (HX.out.ext Y2.out) (by have := BX.out; omega) (HS.out.ext Y2.out) HOP.out (Utf8Tabs_below HT.out Y2.out))).mono ?_⟩
 obtain ⟨ef, hef⟩ : ∃ X, Z3g l x n1 most = X := ⟨_, rfl⟩
 rw [hef]
 rintro e w3 ⟨rfl, y3⟩
 have EF := hid hef
 have Y3 := hid (Z0a Y2.out y3)
 clear hef y3
 by_cases h0 : ef = 0
 rotate_left
 ·have h0' : (ef == 0) = false := beq_eq_false_iff_ne.2 h0
  gi_wp2
  refine ⟨.tuple #[.slice none 0 0, .int .i64 ef], (by simp [results, Tryz.results28, go_sem]), Y3.out, .inl ⟨?_, ?_⟩⟩
  all_goals rw [show Z00 l x (Z0i d) most = ef by unfold Z00; rw [EO.out, ED.out, if_neg (by decide), if_neg (by decide), ND.out, EF.out]]
  exact h0
 subst h0
 gi_wp2
 obtain ⟨m, hm⟩ : ∃ m, w3.heap.size = m := ⟨_, rfl⟩
 have hz : (w3.alloc (.cells #[.slice none 0 0] 23)).heap.size = m + 1 := by rw [World.size_alloc, hm]
 have ho := heap_alloc_new w3 (.cells #[.slice none 0 0] 23)
 have yo := Z0c w3 (.cells #[.slice none 0 0] 23)
 refine ⟨trivial, fun h => (by cases h), (callsIn_wide.2 (Y4p sc A1 Ax n1 c1 nx cx _)).mono ?_⟩
 unfold Y2L
 rw [hz]
 rintro e w4 ⟨rfl, y4, s4, hb1, hb2, hb3⟩
 rw [hm] at ho yo
 have hout := (y4.block m (by omega)).trans ho
 have YO : Hid (Below m w3 w4) := hid (yo.trans (y4.mono (by omega)))
 have S4 : Hid (w4.heap.size = m + 4) := hid s4
 have HM := hid hm
 have HB := hid (And.intro hout (And.intro hb1 (And.intro hb2 hb3)))
 rw [hm]
 clear ho yo y4 s4 hb1 hb2 hb3 hout hz hm
 have hgood := (Z1y EO.out).1
 have HG0 := hid hgood
 have SU := Z08 x (Z0Y hgood)
 have TK : Hid (tks (osOf x) ≤ d.length) := hid (by
  rw [Y2H (fun o ho => by
   unfold osOf at ho
   obtain ⟨z, hz, rfl⟩ := List.mem_map.1 ho
   exact Z0Y hgood z hz)]
  have h1 := (Z10 EF.out).2.2.2.1
  rw [Z1m hgood (by have := NX.out; have := BX.out; omega), ← SU.1] at h1
  have := N1.out
  omega)
 have EQ : Hid (Z3h l (osOf x) (Z0i d) = app l (Z0e (osOf x)) (Z0i d)) := hid (Y0c l (osOf x) (Z0i d) (fun o ho => by
  unfold osOf at ho
  obtain ⟨z, hz, rfl⟩ := List.mem_map.1 ho
  exact Z0Y hgood z hz))
 have NB : Hid ((Z3h l (osOf x) (Z0i d)).length ≤ 1000000000) := hid (by
  have h1 := (Z10 EF.out).2.2.2.1
  have hbx : x.length ≤ 1048576 := by have := NX.out; have := BX.out; omega
  rw [Z1m hgood hbx, ← SU.1] at h1
  have h2 := (Z1y EO.out).2.2
  rw [Z1M hgood hbx, ← SU.2] at h2
  have h3 := Z17 l (Z0e (osOf x)) (Z0i d) (by have := ND.out; omega)
  have h4 := B1.out
  have h5 := ND.out
  rw [EQ.out]
  omega)
 have MW : Hid (w.heap.size ≤ m) := hid (by have := Y3.out.size; have := HM.out; omega)
 clear hgood SU
 gi_wp2
 refine Y1o (Bd := m + 1 + 1) (wz := w3) (N := (Z3h l (osOf x) (Z0i d)).length) (all := Z3h l (osOf x) (Z0i d)) (G0 := fun k => k = m ∨ wb (.slice none 0 0) = some k) (gf := 182)
  (lb := #[.pointer (some ⟨m + 1 + 2, 0, none⟩), .pointer (some ⟨m + 1 + 1, 0, none⟩), .pointer (some ⟨m + 1, 0, none⟩)]) rfl (fun args w => by rfl) rfl (ApI w3 m) ?_ ?_ ?_ (by have := S4.out; omega)
  (fun z b => { tmps := #[Value.pointer (some { block := sc, off := 0 }), Value.slice A1 n1 c1, Value.slice Ax nx cx,
   Value.int IntKind.i64 most, undef, undef, undef, undef, Value.slice none 0 0, Value.int IntKind.i64 0,
   Value.int IntKind.i64 0, Value.int IntKind.i64 0, Value.pointer (some { block := m, off := 0 }),
   Value.pointer (some ⟨b, 0, none⟩), Value.pointer (some { block := sc, off := 0 }), Value.slice Ax nx cx, Value.int IntKind.i64 0,
   Value.int IntKind.i64 0, Value.bool false, undef, Value.pointer (some { block := sc, off := 0 }),
   Value.slice A1 n1 c1, Value.int IntKind.i64 0, Value.bool false,
   Value.pointer (some { block := sc, off := 0 }), Value.slice Ax nx cx, Value.slice A1 n1 c1,
   Value.int IntKind.i64 (n1 : Int), Value.int IntKind.i64 most, Value.int IntKind.i64 0, Value.int IntKind.i64 0,
   Value.bool false, undef, Value.pointer (some { block := sc, off := 0 }), Value.slice A1 n1 c1,
   Value.slice Ax nx cx,
   Value.func (Fn.func 182) #[]
    #[Value.pointer (some { block := m + 1 + 2, off := 0 }),
      Value.pointer (some { block := m + 1 + 1, off := 0 }), Value.pointer (some { block := m + 1, off := 0 })],
   .agg #[.int .i32 z.c.r, .slice z.As z.c.s.length z.cs], undef, undef, undef, undef, undef], defers := [] })
  (fun z => .cells #[.int .i32 z.c.r, .slice z.As z.c.s.length z.cs] 41) ?_ ?_ ?_ ?_
 ·intro p G A B hI hg
  rw [S4.out] at hg
  exact hI.keep (by rw [HM.out]; exact Nat.le_refl _) hg
 ·intro p G A hI k hk
  obtain ⟨h1, h2⟩ := hI.foot (by rw [HM.out]; exact Nat.le_refl _) k hk
  rw [S4.out]
  omega
 ·refine ⟨.slice none 0 0, [], HB.out.1, rfl, Ow.nil _ _, ?_, by rw [HM.out]; exact YO.out, fun k => Iff.rfl⟩
  intro z hz
  cases hz
 ·intro k z W K hK
  have e : ∀ (T : Array Value) (V : Value), ((#[37] : Array Tmp).zip #[V]).foldl (fun (t : Array Value) (p, v) => t.setIfInBounds p v) T = T.setIfInBounds 37 V := fun T V => by simp
  rw [e]
  gi_wp2
  exact hK
 ·intro k p G z b W hI hzg hlen hsz hb
  obtain ⟨v, L, hbx, hL, hown, hparts, hy, hG⟩ := hI
  have hb : W.heap[b]? = some (.cells #[.int .i32 z.c.r, .slice z.As z.c.s.length z.cs] 41 (0, 0)) := hb
  have cb := Z2u hbx
  obtain ⟨t0, t1⟩ := Z6P hb
  have hLn : L.length = p.length := by rw [← hL, Z0D]
  have HLN : Hid (L.length ≤ 1000000000) := hid (by have := NB.out; omega)
  have HSZ : Hid (m + 6 ≤ W.heap.size) := hid (by have := S4.out; omega)
  have hzo : ∀ k, wb (.slice z.As z.c.s.length z.cs) = some k → ¬ Un2 G (m + 4) k ∧ k ≠ m + 2 := fun k hk => by have h := hzg.off k hk; rw [S4.out] at h; exact h
  have HZO := hid hzo
  have HZG := hid hzg.ow
  have ya := Z0c W (.cells #[.int .i32 z.c.r, .slice z.As z.c.s.length z.cs] 41)
  clear hzo hzg hLn hb
  gi_wp2_with (first
   | (gi_at_builtin; refine Y4n (m := [z]) (base := m + 6) rfl (.tmp 38) (.tmp 40) rfl rfl (hown.alloc _) _ _ 1 1 rfl rfl (by exact Z32 (enc := ClS.enc) (size := 2) _ _ z rfl (by simp)) (by have := HLN.out; simp only [List.length_singleton]; omega) (by have := HSZ.out; simp; omega) ?_
      intro v' w9 hown' hgr hv'
      obtain ⟨A9, c9, hv9, _, _⟩ := hown'.form
      subst hv9
      obtain ⟨hb9, HAP⟩ := ApI.app (w0 := w3) (p := p) (G := G) (by rw [HM.out]; exact Nat.le_refl _) hbx hL hown hparts hy hG HZG.out HZO.out HSZ.out ya hgr hown' hv'
      have cb9 := Z2u hb9
      have fb9 := Z0d hb9 0))
  simp only [List.length_append, List.length_cons, List.length_nil, Nat.zero_add] at HAP
  exact HAP
 ·intro J L W G hJ hyW hJ0 hR
  subst hJ
  rw [S4.out] at hJ0 hR ⊢
  have hW : Below w3.heap.size w3 W := by rw [HM.out]; exact YO.out.trans (hyW.mono (by have := S4.out; omega))
  have hblk : ∀ {k o}, k < m + 4 → w4.heap[k]? = some o → W.heap[k]? = some o := fun hk h => (hyW.block _ (by rw [S4.out]; exact hk)).trans h
  refine Y4m (n - 1) (m + 4 + 1) (m + 1) (m + 1 + 1) (m + 1 + 2) sc l A1 Ax n1 c1 nx cx d x w3 W (JL (ApI w3 m) (m + 4) L) ?_ ?_ (fun k p G z W h1 h2 h3 => hR k p G z W h1 h2 h3) N1.out NX.out K1.out (by have := B1.out; omega) BX.out (H1.out.ext Y3.out) (HX.out.ext Y3.out) (HS.out.ext Y3.out)
   (fun z hz => ⟨(HCS.out z hz).1, HCAP.out z hz⟩) (fun o ho => ⟨Z0Y HG0.out o ho, HOP.out o ho⟩) TK.out hW (hblk (by omega) HB.out.2.1) (hblk (by omega) HB.out.2.2.1) (hblk (by omega) HB.out.2.2.2) (by rw [HM.out]; omega) (by rw [HM.out]; omega) (by rw [HM.out]; omega) (by omega) (by omega) G hJ0
  ·rintro p G A B ⟨G0, hi, hG, hl, hk⟩ hg
   have hg' : Grow A (fun k => k = m + 4 ∨ k = m + 4 + 1 ∨ k = m + 2) B (fun k => k = m + 4 ∨ k = m + 4 + 1 ∨ k = m + 2) := ⟨hg.os, hg.tape, hg.output, hg.size, fun j hj hn => hg.block j hj (fun e => hn (.inr (.inr e))), fun k hk => .inl hk⟩
   exact ⟨G0, hi.keep (by rw [HM.out]; exact Nat.le_refl _) hg', hG, (hg.block _ (Z0b hl) (by omega)).trans hl, (hg.block _ (Z0b hk) (by omega)).trans hk⟩
  ·rintro p G A ⟨G0, hi, hG, hl, hk⟩ k hkG
   rw [HM.out]
   rcases (hG k).1 hkG with h1 | h1 | h1
   ·have := hi.foot (by rw [HM.out]; exact Nat.le_refl _) k h1
    omega
   ·have := Z0b hk; omega
   ·have := Z0b hl; omega
 ·intro G W hI hK
  obtain ⟨v, L, hbx, hL, hown, hparts, hy, hG⟩ := hI
  have cb := Z2u hbx
  rw [S4.out] at hK
  obtain ⟨A, c, hv, hc1, hc2⟩ := hown.form
  subst hv
  have HBX := hid hbx
  have HOWN := hid hown
  have HPARTS := hid hparts
  have HLL := hid (hL.trans EQ.out)
  have HY := hid hy
  clear hL hown hparts hbx hG
  gi_wp2
  refine ⟨by simp, .inl ⟨_, _, rfl, run_takeDeferred (by rw [S4.out]; exact hK), ?_⟩⟩
  rw [S4.out]
  refine ⟨.tuple #[.slice A L.length c, .int .i64 0], (by simp [results, Tryz.results28, go_sem]), ?_, .inr ⟨Z2k ED.out (by rw [ND.out]; exact EF.out), A, c, L, rfl, HLL.out, ?_, ?_⟩⟩
  ·exact (Y3.out.trans (HY.out.mono (by have := MW.out; have := HM.out; omega))).trans ((Z1A (F := fun k => k = m + 4) _ rfl).below (fun k hk => by have := MW.out; omega) (by have := (Y3.out.trans (HY.out.mono (by have := MW.out; have := HM.out; omega))).size; exact this))
  ·exact (HOWN.out.keep fun k hk => (Z1A (F := fun k => k = m + 4) _ rfl).block k (HOWN.out.wb_lt k hk).2 (by have := (HOWN.out.wb_lt k hk).1; omega)).base_le (by have := MW.out; omega)
  ·intro z hz
   obtain ⟨⟨h1, h2⟩, h3⟩ := HPARTS.out z hz
   exact ⟨(h1.keep fun k hk => (Z1A (F := fun k => k = m + 4) _ rfl).block k (h1.wb_lt k hk).2 (h3 k hk).2.2.1).base_le (by have := MW.out; have := HM.out; omega), h2⟩
theorem Z4h (us : List Un) : ∃ k, us = trim us ++ List.replicate k (.ret []) := by
 induction us with
 | nil => exact ⟨0, rfl⟩
 | cons u us ih =>
   obtain ⟨k, hk⟩ := ih
   rw [trim]
   cases ht : trim us with
   | nil =>
     rw [ht, List.nil_append] at hk
     simp only
     by_cases hu : u = .ret []
     ·rw [if_pos hu]; exact ⟨k + 1, by rw [hu, List.replicate_succ, List.nil_append, ← hk]⟩
     ·rw [if_neg hu]; exact ⟨k, by rw [← hk]; rfl⟩
   | cons v vs =>
     rw [ht] at hk
     exact ⟨k, by simp only [List.cons_append]; rw [List.cons_append] at hk; rw [← hk]⟩
theorem Z8r {P : Un → Prop} (hd : P .del) : ∀ (us I : List Un) (g : Nat), (∀ u ∈ I, P u) → (∀ u ∈ us, P u) → ∀ u ∈ cn us I g, P u
 | [], I, g, hI, _ => fun u hu => by
   rcases List.mem_append.1 hu with hu | hu
   ·exact hI u hu
   ·rw [(List.mem_replicate.1 hu).2]; exact hd
 | .ins r s :: us, I, g, hI, hu => by
   have h1 : ∀ u ∈ I ++ [Un.ins r s], P u := fun u h => by
    rcases List.mem_append.1 h with h | h
    ·exact hI u h
    ·simp at h; subst h; exact hu _ (by simp)
   rw [cn]
   exact Z8r hd us (I ++ [.ins r s]) g h1 (fun u h => hu u (List.mem_cons_of_mem _ h))
 | .del :: us, I, g, hI, hu => by
   rw [cn]
   exact Z8r hd us I (g + 1) hI (fun u h => hu u (List.mem_cons_of_mem _ h))
 | .ret p :: us, I, g, hI, hu => fun u h => by
   rw [cn] at h
   rcases List.mem_append.1 h with h | h
   ·rcases List.mem_append.1 h with h | h
    ·exact hI u h
    ·rw [(List.mem_replicate.1 h).2]; exact hd
   ·rcases List.mem_cons.1 h with rfl | h
    ·exact hu _ (by simp)
    ·exact Z8r hd us [] 0 (by simp) (fun u h => hu u (List.mem_cons_of_mem _ h)) u h
theorem Y2M {n a : Nat} : ∀ {I : List Un}, (∀ u ∈ I, ∃ r s, u = Un.ins r s) → (I ≠ [] → a ≠ n) → finU n a I = true ∧ Z0k I = 0
 | [], _, _ => ⟨rfl, rfl⟩
 | u :: I, h, h2 => by
   obtain ⟨r, s, rfl⟩ := h u (by simp)
   have h3 := h2 (by simp)
   obtain ⟨i1, i2⟩ := Y2M (n := n) (a := a) (I := I) (fun u hu => h u (List.mem_cons_of_mem _ hu)) (fun _ => h3)
   exact ⟨by simp [finU, i1, h3], by rw [Z06, i2]⟩
theorem Y2N {n a g : Nat} {I : List Un} (hI : ∀ u ∈ I, ∃ r s, u = Un.ins r s) (h1 : I ≠ [] → a ≠ n) (h2 : 0 < g → a + g ≠ n) (h3 : a + g ≤ n) : finU n a (I ++ List.replicate g .del) = true ∧ Z0k (I ++ List.replicate g .del) = g := by
 obtain ⟨i1, i2⟩ := Y2M hI h1
 rw [Z1n, i1, i2, Z0A, i2, Z2M]
 refine ⟨?_, by omega⟩
 cases g with
 | zero => rfl
 | succ k =>
   rw [Nat.add_zero, Bool.true_and, Z8i n k a h3]
   exact decide_eq_true (h2 (by omega))
theorem Y0h (n : Nat) : ∀ (us I : List Un) (g a : Nat), (∀ u ∈ I, ∃ r s, u = Un.ins r s) → (I ≠ [] → a ≠ n) → (0 < g → a + g ≠ n) → a + g + Z0k us ≤ n → finU n (a + g) us = true → finU n a (cn us I g) = true
 | [], I, g, a, hI, h1, h2, h3, _ => (Y2N hI h1 h2 (by simp [Z0k] at h3; exact h3)).1
 | .ins r s :: us, I, g, a, hI, h1, h2, h3, h4 => by
   simp only [finU, Bool.and_eq_true, decide_eq_true_eq] at h4
   rw [Z06] at h3
   rw [cn]
   exact Y0h n us (I ++ [.ins r s]) g a (fun u h => by
    rcases List.mem_append.1 h with h | h
    ·exact hI u h
    ·simp at h; exact ⟨r, s, h⟩) (fun _ => by omega) h2 h3 h4.2
 | .del :: us, I, g, a, hI, h1, h2, h3, h4 => by
   simp only [finU, Bool.and_eq_true, decide_eq_true_eq] at h4
   rw [Z0S] at h3
   rw [cn]
   exact Y0h n us I (g + 1) a hI h1 (fun _ => by omega) (by omega) h4.2
 | .ret p :: us, I, g, a, hI, h1, h2, h3, h4 => by
   simp only [finU] at h4
   rw [Z0y] at h3
   obtain ⟨e1, e2⟩ := Y2N hI h1 h2 (by omega)
   rw [cn, Z1n, e1, e2, Bool.true_and]
   show finU n (a + g + 1) (cn us [] 0) = true
   exact Y0h n us [] 0 (a + g + 1) (by simp) (by simp) (by simp) (by omega) h4
theorem Z8s {l : List Ky} {us : List Un} {n most : Nat} (h : FitU l us n most) : FitU l (nf us) n most := by
 obtain ⟨k, hk⟩ := Z4h (Z16 us)
 have hk' : Z16 us = nf us ++ List.replicate k (.ret []) := hk
 have hc := Y0h n us [] 0 0 (by simp) (by simp) (by simp) (by have := h.t; omega) h.f
 have ht := Z5U us
 have hm := Z5V us
 rw [hk', Z0A, Z1U] at ht
 rw [hk', Z0I, Z2Q] at hm
 have e : cn us [] 0 = Z16 us := rfl
 rw [e, hk', Z1n, Bool.and_eq_true] at hc
 have hall := Z8r (P := vU l) trivial us [] 0 (by simp) h.v
 have h1 := h.t; have h2 := h.m; have h3 := h.tb; have h4 := h.mb
 refine ⟨fun u hu => hall u ?_, by omega, h.n1, h.nm, hc.1, by omega, by omega, by omega⟩
 show u ∈ Z16 us
 rw [hk']; exact List.mem_append_left _ hu
def delS (g : Int) : OpS := ⟨opD g, none, 0, none, 0, none, 0⟩
def gapS (I : List OpS) (g : Int) : List OpS := I ++ (if 0 < g then [delS g] else [])
theorem Z3r (I : List OpS) (g : Int) : osOf (gapS I g) = osOf I ++ (if 0 < g then [opD g] else []) := by
 unfold gapS osOf
 split <;> simp [delS]
theorem Z1e (I : List OpS) (g : Int) : (gapS I g).length ≤ I.length + 1 := by unfold gapS; split <;> simp
theorem Z3s (b : Nat) (vd : Value) (Ai : Option Addr) (ni ci : Nat) (g : Int) (I : List OpS) (w : World) (h1 : w.heap[b]? = some (.cells #[vd, .slice Ai ni ci, .int .i64 g] 189 (0, 0)))
 (hn : ni = I.length) (hr : RdOs w w.heap.size Ai I) (hb : ni ≤ 10000000) :
 Calls Tryz.prog 140 #[.pointer (some ⟨b, 0, none⟩)] w (Y2J (gapS I g) w) := by
 have N := hid hn
 have H1 := hid h1
 obtain ⟨c0, c1, c2⟩ := Z0Z h1
 clear hn h1
 go_enter Tryz.func140, Tryz.ntmps140
 go_wp2_with (go_at_call 226; refine Hid.out ?_)
 refine hid ?_
 refine (Z6a Ai ni ci I w N.out hr (by omega)).mono ?_
 rintro e w1 ⟨A1, k1, rfl, ho, y⟩
 obtain ⟨d0, d1, d2⟩ := Z0Z ((y.block b (Z0b H1.out)).trans H1.out)
 have HO := hid ho
 clear ho c0 c1 c2
 by_cases hg : 0 < g
 ·have e1 : gapS I g = I ++ [delS g] := by unfold gapS; rw [if_pos hg]
  have E1 := hid e1
  clear e1
  go_wp2_with (at_builtin; refine Y2I (m := [delS g]) rfl (.tmp 14) (.tmp 20) rfl rfl (by exact HO.out.alloc _) _ _ 1 1 rfl rfl (by exact Z1O (enc := OpS.enc) (size := 5) _ _ (delS g) rfl) (by have := N.out; simp only [List.length_singleton]; omega) (by exact Nat.le_trans y.size (Z1c _ _)) ?_; intro v' w' hown' hgr hv')
  have s1 := Z1h (y.alloc y.size _) (by exact Nat.le_trans y.size (Z1c _ _)) (HO.out.alloc _) (Nat.le_refl _) hgr
  rw [← E1.out] at hown'
  obtain ⟨A', c', rfl, _, _⟩ := hown'.form
  have HOW := hid hown'
  clear hown'
  go_ret
  exact ⟨A', c', rfl, HOW.out, s1⟩
 ·have e1 : gapS I g = I := by unfold gapS; rw [if_neg hg]; simp
  have E1 := hid e1
  clear e1
  go_wp2_with (fail)
  go_ret
  unfold Y2J
  rw [E1.out]
  exact ⟨A1, k1, rfl, HO.out, y⟩
end Go.Proofs.YtnmedachaeanbaaGreatDoor
