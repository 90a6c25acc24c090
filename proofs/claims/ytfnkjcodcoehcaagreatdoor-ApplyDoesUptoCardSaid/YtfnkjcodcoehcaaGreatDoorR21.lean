/- Merged texts: RangeGrow, ApplyNew, ApplyOk, CellsMay2. -/
import Derived.Test.YtfnkjcodcoehcaaGreatDoorR20
import Derived.Test.YtfnkjcodcoehcaaGreatDoorR18
import Derived.Test.YtfnkjcodcoehcaaGreatDoorR17
namespace Go.Proofs.YtfnkjcodcoehcaaGreatDoor
open Go.RowKit Go.Shelf
set_option linter.unusedVariables false
set_option linter.unusedSimpArgs false

/-- the footprint with the loop's two blocks -/
def Un2 (G : Nat → Prop) (B : Nat) (k : Nat) : Prop := G k ∨ k = B ∨ k = B + 1
/-- the caller's invariant with the loop's record beside it -/
def JL (I : List Cl → (Nat → Prop) → World → Prop) (B : Nat) (L : Loop) (p : List Cl) (G : Nat → Prop) (W : World) : Prop :=
  ∃ G0, I p G0 W ∧ (∀ k, G k ↔ Un2 G0 B k) ∧ W.heap[B + 1]? = some (.loop L) ∧ W.heap[B]? = some (.deferred (some []))
theorem grow_putObj {W : World} {F : Nat → Prop} {l : Nat} (o : Obj) (hl : F l) : Grow W F (W.putObj l o) F :=
  ⟨rfl, rfl, rfl, by simp, fun j hj hn => World.putObj_heap_other (fun e => hn (by rw [e]; exact hl)), fun _ h => .inl h⟩
theorem Grow.un2 {w w' : World} {F F' : Nat → Prop} {B : Nat} (h : Grow w F w' F') : Grow w (Un2 F B) w' (Un2 F' B) :=
  ⟨h.os, h.tape, h.output, h.size, fun j hj hn => h.block j hj (fun e => hn (.inl e)), fun k hk => by
    rcases hk with h1 | h1
    · rcases h.foot k h1 with h2 | h2
      · exact .inl (.inl h2)
      · exact .inr h2
    · exact .inl (.inr h1)⟩
theorem Grow.iff {w w' : World} {F F' G G' : Nat → Prop} (h : Grow w F w' F') (h1 : ∀ k, G k ↔ F k) (h2 : ∀ k, G' k ↔ F' k) : Grow w G w' G' :=
  ⟨h.os, h.tape, h.output, h.size, fun j hj hn => h.block j hj (fun e => hn ((h1 j).2 e)), fun k hk => by
    rcases h.foot k ((h2 k).1 hk) with h3 | h3
    · exact .inl ((h1 k).2 h3)
    · exact .inr h3⟩

set_option maxHeartbeats 1000000 in
theorem range_grow {P : Program} {n : Nat} {g : Operand} {ps : Array Tmp} {assign body : Code} {Q : Exit → Act → World → Prop} {a : Act} {w wz : World} {gf : Nat} {lb : Array Value} {N Bd : Nat} {all : List Cl} {G0 : Nat → Prop}
    (hg : a.eval g = .func (.func gf) #[] lb) (eg : ∀ args w, (callFunc gf args).run P w = .ok (.enter gf args) w) (hps : ps.size = 1)
    (I : List Cl → (Nat → Prop) → World → Prop)
    (hI : ∀ p G A B, I p G A → Grow A (fun k => k = w.heap.size ∨ k = w.heap.size + 1 ∨ k = Bd) B (fun k => k = w.heap.size ∨ k = w.heap.size + 1 ∨ k = Bd) → I p G B)
    (hIG : ∀ p G A, I p G A → ∀ k, G k → k < A.heap.size ∧ k ≠ w.heap.size ∧ k ≠ w.heap.size + 1)
    (h0 : I [] G0 w) (hbd : Bd < w.heap.size)
    (a1 : ClS → Nat → Act) (bx : ClS → Obj)
    (hassign : ∀ (m : Nat) (z : ClS) (W : World) (K : Act → World → Prop), K (a1 z W.heap.size) (W.alloc (bx z)) →
      assign.wpIn (Fence.wide.inRound (w.heap.size + 1)) m P (Exit.then K (fun _ _ _ => False)) { tmps := (ps.zip #[.agg #[.int .i32 z.c.r, .slice z.As z.c.s.length z.cs]]).foldl (fun t (p, v) => t.setIfInBounds p v) a.tmps, defers := [] } W)
    (hbody : ∀ (m : Nat) (p : List Cl) (G : Nat → Prop) (z : ClS) (b : Nat) (W : World), I p G W → ClGive wz W (Un2 G w.heap.size) Bd z → p.length < N → w.heap.size + 1 < W.heap.size → W.heap[b]? = some (bx z) →
      body.wpIn (Fence.wide.inRound (w.heap.size + 1)) m P (fun e _ W' => e = .normal ∧ ∃ G', I (p ++ [z.c]) G' W' ∧ Grow W G W' G') (a1 z b) W)
    (hseq : ∀ (J : List Cl → (Nat → Prop) → World → Prop) (L : Loop) (W : World) (G : Nat → Prop), J = JL I w.heap.size L → Below w.heap.size w W → J [] G W →
      (∀ (m : Nat) p G z W, J p G W → ClGive wz W G Bd z → p.length < N → YieldAt Fence.wide m P (w.heap.size + 1) #[.agg #[.int .i32 z.c.r, .slice z.As z.c.s.length z.cs]] W fun e W' =>
        e = .returned (.bool true) ∧ ∃ G', J (p ++ [z.c]) G' W' ∧ Grow W G W' G') →
      CallsIn Fence.wide (n - 1) P gf (#[.func (.yield (w.heap.size + 1)) #[] #[]] ++ lb) W fun e W' => (∃ v, e = .returned v) ∧ ∃ G', J all G' W')
    (hdone : ∀ (G : Nat → Prop) (W : World), I all G W → W.heap[w.heap.size]? = some (.deferred (some [])) → Q .normal { a with defers := { target := .collected w.heap.size, args := #[] } :: a.defers } W) :
    (Code.rangeFunc g ps assign body).wpIn Fence.wide n P Q a w := by
  refine wpIn_rangeFunc ?_
  intro fn hfn
  obtain ⟨rec, hrec⟩ : ∃ rec : LoopState → Option Code → Loop, rec = fun st pe => { state := st, pending := pe, fn, tmps := a.tmps, params := ps, assign, body, defers := w.heap.size } := ⟨_, rfl⟩
  obtain ⟨W1, hW1⟩ : ∃ W1, (w.alloc (.deferred (some []))).alloc (.loop (rec .ready none)) = W1 := ⟨_, rfl⟩
  have hL1 : W1.heap[w.heap.size + 1]? = some (.loop (rec .ready none)) := by
    rw [← hW1]; have := World.alloc_heap_new (w.alloc (.deferred (some []))) (.loop (rec .ready none)); rwa [World.size_alloc] at this
  have hK1 : W1.heap[w.heap.size]? = some (.deferred (some [])) := by
    rw [← hW1]; exact (Below.heap_alloc _ _ _ (by simp)).trans (World.alloc_heap_new w _)
  have y1 : Below w.heap.size w W1 := by
    rw [← hW1]; exact ((Below.refl _ w).alloc (Nat.le_refl _) _).alloc (by simp) _
  have hI1 : I [] G0 W1 := hI _ _ _ _ h0 (Grow.of y1)
  refine ⟨w.heap.size + 1, [{ target := .collected w.heap.size, args := #[] }], W1, { target := .fn (.func gf) lb, args := #[.func (.yield (w.heap.size + 1)) #[] #[]] }, W1, gf,
    #[.func (.yield (w.heap.size + 1)) #[] #[]] ++ lb, W1, ?_, ?_, fun _ _ => trivial, ?_, fun h => (by cases h), ?_⟩
  · rw [← hW1, hrec]; exact run_enterLoop_outer _ _ _ _ _
  · simp only [resolve, hg]
    simp [go_sem]
  · simp [invoke, go_sem, eg]
  · refine (hseq (JL I w.heap.size (rec .ready none)) (rec .ready none) W1 (Un2 G0 w.heap.size) rfl y1 ⟨G0, hI1, fun _ => Iff.rfl, hL1, hK1⟩ ?_).mono ?_
    · rintro m p G z W ⟨Gi, hi, hG, hl, hk⟩ hz hlen
      have hlt : w.heap.size + 1 < W.heap.size := lt_of_some hl
      have hy := run_yield (P := P) (args := #[.agg #[.int .i32 z.c.r, .slice z.As z.c.s.length z.cs]]) hl (by rw [hrec]; exact hps.symm)
      rw [hrec] at hy
      refine ⟨fn, _, assign, body, hy, roundIn_of_wpIn hfn (hassign m z W _ ?_)⟩
      clear hy
      obtain ⟨Wa, hWa⟩ : ∃ Wa, W.alloc (bx z) = Wa := ⟨_, rfl⟩
      have ya : Below W.heap.size W Wa := by rw [← hWa]; exact (Below.refl _ W).alloc (Nat.le_refl _) _
      have hba : Wa.heap[W.heap.size]? = some (bx z) := by rw [← hWa]; exact World.alloc_heap_new W _
      rw [hWa]
      clear hWa
      have hla := (ya.block _ (lt_of_some hl)).trans hl
      have hka := (ya.block _ (lt_of_some hk)).trans hk
      have hia := hI _ _ _ _ hi (Grow.of ya)
      have sa := ya.size
      refine ⟨_, run_beginRound hla (by rw [hrec]), ?_⟩
      obtain ⟨W2, hW2⟩ : ∃ W2, Wa.putObj (w.heap.size + 1) (.loop { rec .ready none with state := .busy }) = W2 := ⟨_, rfl⟩
      rw [hW2]
      have hl2 : W2.heap[w.heap.size + 1]? = some (.loop { rec .ready none with state := .busy }) := by rw [← hW2]; exact World.putObj_heap_same (lt_of_some hla)
      have hk2 : W2.heap[w.heap.size]? = some (.deferred (some [])) := by rw [← hW2]; exact (World.putObj_heap_other (by omega)).trans hka
      have hb2 : W2.heap[W.heap.size]? = some (bx z) := by rw [← hW2]; exact (World.putObj_heap_other (by omega)).trans hba
      have g2 : ∀ F : Nat → Prop, F (w.heap.size + 1) → Grow Wa F W2 F := fun F hF => by rw [← hW2]; exact grow_putObj _ hF
      have hi2 := hI _ _ _ _ hia (g2 _ (.inr (.inl rfl)))
      have hoa := hz.ow.keep (w' := Wa) fun k hk => ya.block k (hz.ow.wb_lt k hk).2
      have hz2 : ClGive wz W2 (Un2 Gi w.heap.size) Bd z := ⟨hoa.keep fun k hk => (g2 (fun q => q = w.heap.size + 1) rfl).block k (hoa.wb_lt k hk).2 (fun e => (hz.off k hk).1 ((hG k).2 (.inr (.inr e)))),
        fun k hk => ⟨fun h => (hz.off k hk).1 ((hG k).2 h), (hz.off k hk).2⟩⟩
      have s2 := (g2 (fun q => q = w.heap.size + 1) rfl).size
      refine wpIn_mono (hbody m p Gi z W.heap.size W2 hi2 hz2 hlen (by omega) hb2) ?_
      rintro e a3 W3 ⟨rfl, G3, hi3, g3⟩
      have n1 : ¬ Gi (w.heap.size + 1) := fun h => (hIG _ _ _ hi _ h).2.2 rfl
      have n0 : ¬ Gi w.heap.size := fun h => (hIG _ _ _ hi _ h).2.1 rfl
      have hl3 := (g3.block _ (lt_of_some hl2) n1).trans hl2
      have hk3 := (g3.block _ (lt_of_some hk2) n0).trans hk2
      have hr := run_endRound (P := P) none hl3
      rw [hrec] at hr
      refine ⟨_, _, hr, rfl, Un2 G3 w.heap.size, ⟨G3, ?_, fun _ => Iff.rfl, ?_, ?_⟩, ?_⟩
      · exact hI _ _ _ _ hi3 (grow_putObj _ (.inr (.inl rfl)))
      · rw [hrec]; exact World.putObj_heap_same (lt_of_some hl3)
      · exact (World.putObj_heap_other (by omega)).trans hk3
      · exact ((((Grow.of ya).trans (g2 (Un2 Gi w.heap.size) (.inr (.inr rfl)))).trans g3.un2).trans (grow_putObj _ (.inr (.inr rfl)))).iff hG (fun _ => Iff.rfl)
    · rintro e W2 ⟨⟨v, rfl⟩, G', G2, hi, hG, hl, hk⟩
      refine ⟨none, _, by have := run_endLoop (P := P) hl (by rw [hrec]; simp); rw [hrec] at this; exact this, hdone G2 _ (hI _ _ _ _ hi (grow_putObj _ (.inr (.inl rfl)))) ((World.putObj_heap_other (by omega)).trans hk)⟩
end Go.Proofs.YtfnkjcodcoehcaaGreatDoor
namespace Go.Proofs.YtfnkjcodcoehcaaGreatDoor
open Go.RowKit Go.Shelf
set_option linter.unusedVariables false
set_option linter.unusedSimpArgs false

theorem app_csIn {F : Fence} {nF : Nat} {ops : Array Oper} {rest : List Oper} {o : Oper} {a : Act} {w : World} {Q : Exit → Act → World → Prop} {base : Nat} {v : Value} {l m : List ClS} (hgd : o.guard = none) (s x : Operand)
    (ho : o.op = .call { callee := .builtin .append, args := #[s, x], argTypes := #[23, 23] })
    (hsv : a.eval s = v) (hown : OwCs w base v l) (B : Nat) (A : Option Addr) (c n : Nat) (hx : a.eval x = .slice A n c) (hn : n = m.length) (hr : RdCs w B A m)
    (hb : l.length + m.length ≤ 2000000000000) (hbase : base ≤ w.heap.size)
    (h : ∀ v' w', OwCs w' base v' (l ++ m) → w.grownBy w' (wb v) → (v' = v ∧ w' = w ∨ wb v' = wb v ∨ wb v' = some w.heap.size) → wpListIn F nF Tryz.prog ops Q rest (a.put o.dst v') w') : wpListIn F nF Tryz.prog ops Q (o :: rest) a w := by
  obtain ⟨i0, hi0, hz0, hz1, hz2⟩ := info_parts Tryz.infoCl
  obtain ⟨v', w', hrun, h2, h3, h4⟩ := run_app (P := Tryz.prog) 23 o.type i0 _ 32 Tryz.slCl hi0 hz0 hz1 hz2 rfl (by omega) ClS.enc_len ClS.enc_one hown B A c n hn hr (by simp only [maxLen]; omega) (by omega) hbase
  refine wpListIn_plain hgd fun K hK' => ?_
  unfold Oper.wpIn
  refine ⟨?_, ?_⟩
  · simp [Oper.about, ho, resolve, Target.leads, Sem.run_pure]
  · rw [Oper.semAt_plain F _ _ (by rw [ho]; intro c hc'; cases hc')]
    simp [execOp, ho, resolve, invoke, builtin, hsv, hx, hrun, Result.andThen]
    exact hK' _ _ (h v' w' h2 h3 h4)

/-- what has come lies in a slice of the call's own, whose value stands in box m -/
def ApI (w0 : World) (m : Nat) (p : List Cl) (G : Nat → Prop) (W : World) : Prop :=
  ∃ v L, W.heap[m]? = some (.cells #[v] 23 (0, 0)) ∧ clsOf L = p ∧ OwCs W (m + 6) v L ∧ (∀ z ∈ L, PartC W w0.heap.size v z ∧ ∀ k, wb (.slice z.As z.c.s.length z.cs) = some k → k ≠ m ∧ k ≠ m + 2 ∧ k ≠ m + 4 ∧ k ≠ m + 5) ∧
    Below w0.heap.size w0 W ∧ ∀ k, G k ↔ k = m ∨ wb v = some k
theorem ApI.keep {w0 A B : World} {m : Nat} {p : List Cl} {G : Nat → Prop} (hm : w0.heap.size ≤ m) (h : ApI w0 m p G A) (g : Grow A (fun k => k = m + 4 ∨ k = m + 4 + 1 ∨ k = m + 2) B (fun k => k = m + 4 ∨ k = m + 4 + 1 ∨ k = m + 2)) : ApI w0 m p G B := by
  obtain ⟨v, L, hb, hL, ho, hp, y, hG⟩ := h
  refine ⟨v, L, (g.block m (lt_of_some hb) (by omega)).trans hb, hL, ho.keep fun k hk => g.block k (ho.wb_lt k hk).2 (by have := (ho.wb_lt k hk).1; omega), fun z hz => ?_, y.trans (g.below (fun k hk => by omega) y.size), hG⟩
  obtain ⟨hz1, hz2⟩ := hp z hz
  exact ⟨⟨hz1.1.keep fun k hk => g.block k (hz1.1.wb_lt k hk).2 (by have := hz2 k hk; omega), hz1.2⟩, hz2⟩
theorem ApI.foot {w0 A : World} {m : Nat} {p : List Cl} {G : Nat → Prop} (hm : w0.heap.size ≤ m) (h : ApI w0 m p G A) : ∀ k, G k → k < A.heap.size ∧ (k = m ∨ m + 6 ≤ k) := fun k hk => by
  obtain ⟨v, L, hb, hL, ho, hp, y, hG⟩ := h
  rcases (hG k).1 hk with rfl | h1
  · exact ⟨lt_of_some hb, .inl rfl⟩
  · exact ⟨(ho.wb_lt k h1).2, .inr (ho.wb_lt k h1).1⟩
theorem ApI.app {w0 W W2 w3 : World} {m : Nat} {p : List Cl} {G : Nat → Prop} {v v' : Value} {L : List ClS} {z : ClS} (hm : w0.heap.size ≤ m) (hb : W.heap[m]? = some (.cells #[v] 23 (0, 0))) (hL : clsOf L = p) (ho : OwCs W (m + 6) v L)
    (hp : ∀ z ∈ L, PartC W w0.heap.size v z ∧ ∀ k, wb (.slice z.As z.c.s.length z.cs) = some k → k ≠ m ∧ k ≠ m + 2 ∧ k ≠ m + 4 ∧ k ≠ m + 5) (y : Below w0.heap.size w0 W) (hG : ∀ k, G k ↔ k = m ∨ wb v = some k)
    (hz : OwAt W w0.heap.size (.slice z.As z.c.s.length z.cs) z.c.s) (hzo : ∀ k, wb (.slice z.As z.c.s.length z.cs) = some k → ¬ Un2 G (m + 4) k ∧ k ≠ m + 2) (hs : m + 6 ≤ W.heap.size)
    (y2 : Below W.heap.size W W2) (hgr : W2.grownBy w3 (wb v)) (hown' : OwCs w3 (m + 6) v' (L ++ [z])) (hv' : v' = v ∧ w3 = W2 ∨ wb v' = wb v ∨ wb v' = some W2.heap.size) :
    w3.heap[m]? = some (.cells #[v] 23 (0, 0)) ∧ ∃ G', ApI w0 m (p ++ [z.c]) G' (w3.setCell ⟨m, 0, none⟩ v') ∧ Grow W G (w3.setCell ⟨m, 0, none⟩ v') G' := by
  have b2 := (y2.block m (lt_of_some hb)).trans hb
  have nm : wb v ≠ some m := fun e => by have := (ho.wb_lt m e).1; omega
  have b3 := (hgr.block m (lt_of_some b2) (fun e => nm e.symm)).trans b2
  refine ⟨b3, fun k => k = m ∨ wb v' = some k, ?_, ?_⟩
  · have b4 := heap_setCell_self (j := 0) b3 v'
    have gs := setCell_below (w := w3) m 0 v' (F := fun k => k = m) rfl 0
    have nm' : wb v' ≠ some m := fun e => by have := (hown'.wb_lt m e).1; omega
    refine ⟨v', L ++ [z], by simpa using b4, ?_, hown'.setCell (p := ⟨m, 0, none⟩) nm' v', ?_, ?_, fun _ => Iff.rfl⟩
    · rw [← hL]; unfold clsOf; simp
    · intro x hx
      have hx2 : PartC W w0.heap.size v x ∧ ∀ k, wb (.slice x.As x.c.s.length x.cs) = some k → k ≠ m ∧ k ≠ m + 2 ∧ k ≠ m + 4 ∧ k ≠ m + 5 := by
        rcases List.mem_append.1 hx with hx | hx
        · exact hp x hx
        · simp at hx; subst hx
          refine ⟨⟨hz, fun k hk e => (hzo k hk).1 (.inl ((hG k).2 (.inr e)))⟩, fun k hk => ⟨fun e => (hzo k hk).1 (.inl ((hG k).2 (.inl e))), (hzo k hk).2, fun e => (hzo k hk).1 (.inr (.inl e)), fun e => (hzo k hk).1 (.inr (.inr (by omega)))⟩⟩
      have h3 := (hx2.1.below y2).app hgr hv'
      exact ⟨⟨h3.1.setCell (p := ⟨m, 0, none⟩) (fun e => (hx2.2 m e).1 rfl) v', h3.2⟩, hx2.2⟩
    · have y3 : Below w0.heap.size w0 w3 := (y.trans (y2.mono y.size)).grown hgr (by have := y.size; have := y2.size; omega) (fun k e => by have := (ho.wb_lt k e).1; omega)
      exact y3.trans (gs.below (fun k hk => by omega) y3.size)
  · have gs := setCell_below (w := w3) m 0 v' (F := fun k => k = m ∨ wb v' = some k) (.inl rfl) 0
    have g3 : Grow W G w3 (fun k => k = m ∨ wb v' = some k) := ⟨hgr.os.trans y2.os, hgr.tape.trans y2.tape, hgr.output.trans y2.output, Nat.le_trans y2.size hgr.size,
      fun j hj hn => (hgr.block j (Nat.lt_of_lt_of_le hj y2.size) (fun e => hn ((hG j).2 (.inr e.symm)))).trans (y2.block j hj),
      fun k hk => by
        rcases hk with rfl | hk
        · exact .inl ((hG _).2 (.inl rfl))
        · rcases hv' with ⟨rfl, _⟩ | h1 | h1
          · exact .inl ((hG k).2 (.inr hk))
          · exact .inl ((hG k).2 (.inr (by rw [← h1]; exact hk)))
          · rw [h1] at hk; injection hk with hk; have := y2.size; exact .inr (by omega)⟩
    exact g3.trans gs
end Go.Proofs.YtfnkjcodcoehcaaGreatDoor
namespace Go.Proofs.YtfnkjcodcoehcaaGreatDoor
set_option linter.unusedVariables false
set_option linter.unusedSimpArgs false

/-- the fields' ranges of a unit's values -/
def okUn : Un → Prop
  | .ins r s => okVr s
  | .del => True
  | .ret p => okVs p
theorem vr_apply {p : List Ch} {a : List At} (a1 : riseA a = true) (p1 : riseC p = true) (va : okVr a) (vp : okVs p) : okVr (applyP p a) := fun c hc => by
  obtain ⟨d1, d2, _⟩ := apply_all (riseC_srt.1 p1) (riseA_srt.1 a1)
  have h1 := lk_of_mem At.key d1 hc
  rw [d2] at h1
  cases hy : lk Ch.key p c.key with
  | none =>
    rw [hy] at h1
    have h1 : lk At.key a c.key = some c := h1
    exact va c (lk_mem At.key h1)
  | some y =>
    rw [hy] at h1
    simp only [lkApply] at h1
    by_cases hg : y.gone = true
    · rw [if_pos hg] at h1; cases h1
    · rw [if_neg hg] at h1
      simp only [Option.some.injEq] at h1
      rw [← h1]
      exact (vp y (lk_mem Ch.key hy)).1
theorem vr_act {l : List Ky} {c : Cl} {p : List Ch} (hs : mayS l c.s = 0) (hp : mayP l p = 0) (va : okVr c.s) (vp : okVs p) : okVr (actC l c p).s := by
  obtain ⟨_, a1, _⟩ := mayS_zero hs
  obtain ⟨_, p1, _⟩ := mayP_zero (stay_filter (fun x => keepK l (c.r == 10) x.key) hp)
  exact vr_apply a1 p1 va (vs_filter _ vp)
theorem app_vr {l : List Ky} : ∀ (us : List Un) (d : List Cl), (∀ u ∈ us, vU l u ∧ okUn u) → (∀ c ∈ d, okCl l c ∧ okVr c.s) → ∀ c ∈ app l us d, okVr c.s
  | [], d, _, hd => fun c hc => (hd c hc).2
  | .ins r s :: us, d, hu, hd => by
    intro c hc
    rcases List.mem_cons.1 hc with rfl | hc
    · exact (hu (.ins r s) (by simp)).2
    · exact app_vr us d (fun u h => hu u (List.mem_cons_of_mem _ h)) hd c hc
  | .del :: us, d, hu, hd => app_vr us (d.drop 1) (fun u h => hu u (List.mem_cons_of_mem _ h)) (fun c hc => hd c (List.mem_of_mem_drop hc))
  | .ret p :: us, d, hu, hd => by
    intro c hc
    rcases List.mem_append.1 hc with hc | hc
    · obtain ⟨x, hx, rfl⟩ := List.mem_map.1 hc
      have hx2 := hd x (List.mem_of_mem_take hx)
      have h3 := hu (.ret p) (by simp)
      exact vr_act hx2.1.2.1 h3.1 hx2.2 h3.2
    · exact app_vr us (d.drop 1) (fun u h => hu u (List.mem_cons_of_mem _ h)) (fun c hc => hd c (List.mem_of_mem_drop hc)) c hc
theorem okUn_of {o : Opd} (h : okOp o) : ∀ u ∈ unitsO o, okUn u := fun u hu => by
  unfold unitsO at hu
  by_cases h2 : o.k = 2
  · rw [if_pos h2] at hu
    obtain ⟨r, _, rfl⟩ := List.mem_map.1 hu
    exact h.1
  · rw [if_neg h2] at hu
    by_cases h1 : o.k = 1
    · rw [if_pos h1] at hu
      rw [(List.mem_replicate.1 hu).2]; exact h.2.1
    · rw [if_neg h1] at hu
      rw [(List.mem_replicate.1 hu).2]; trivial
/-- what apply.Apply refuses by -/
def applyN (l : List Ky) (x : List OpS) (d : List Cl) (most : Int) : Int :=
  if mayO l x ≠ 0 then mayO l x else if mayD l d ≠ 0 then 3 else fitsO l x (d.length : Int) most
theorem applyN_zero {l : List Ky} {x : List OpS} {d : List Cl} {most : Int} (h : applyN l x d most = 0) : mayD l d = 0 ∧ fitsO l x (d.length : Int) most = 0 := by
  unfold applyN at h
  by_cases h1 : mayO l x = 0
  · rw [if_neg (by simpa using h1)] at h
    by_cases h2 : mayD l d = 0
    · rw [if_neg (by simpa using h2)] at h
      exact ⟨h2, h⟩
    · rw [if_pos h2] at h; cases h
  · rw [if_pos h1] at h; exact absurd h h1
theorem zero_applyN {l : List Ky} {x : List OpS} {d : List Cl} {most : Int} (h1 : mayD l d = 0) (h2 : fitsO l x (d.length : Int) most = 0) : applyN l x d most = 0 := by
  obtain ⟨h3, _⟩ := fits_zero h2
  unfold applyN
  rw [if_neg (by simpa using h3), if_neg (by simpa using h1), h2]
/-- what comes may be, and has values in their ranges -/
structure Came (l : List Ky) (us : List Un) (d : List Cl) (o : List Cl) : Prop where
  eq : o = app l us d
  may : mayD l o = 0
  len : o.length + takesU us = d.length + makesU us
  s64 : ∀ c ∈ o, c.s.length ≤ 64
  vr : ∀ c ∈ o, okVr c.s
theorem came {l : List Ky} {x : List OpS} {d : List Cl} {most : Nat} (hl : l.length ≤ 64) (hx : x.length ≤ 1048576) (hmo : most ≤ 536870912) (ho : ∀ o ∈ x, okOp o.o) (hd : ∀ c ∈ d, okVr c.s) (h : applyN l x d most = 0) :
    goodO l x ∧ FitU l (units (osOf x)) d.length most ∧ Came l (units (osOf x)) d (app l (units (osOf x)) d) := by
  obtain ⟨h1, h2⟩ := applyN_zero h
  obtain ⟨hg, hf⟩ := fits_units hx (by omega) h2
  have hm := hf.m
  have hb : d.length + makesU (units (osOf x)) ≤ 536870912 + takesU (units (osOf x)) := by omega
  have hmay := app_mayD hl h1 hf hb
  obtain ⟨_, hok, _⟩ := mayD_iff.1 hmay
  obtain ⟨_, hdk, _⟩ := mayD_iff.1 h1
  refine ⟨hg, hf, rfl, hmay, app_len _ _ _ hf.t, fun c hc => (mayS_zero (hok c hc).2.1).1, app_vr _ _ (fun u hu => ⟨hf.v u hu, ?_⟩) (fun c hc => ⟨hdk c hc, hd c hc⟩)⟩
  obtain ⟨o, hom, hu⟩ := units_mem.1 hu
  exact okUn_of (ho o hom) u hu
theorem makes_small {o : Opd} (h : isOp o) : makesU (unitsO o) ≤ o.r.length + takesU (unitsO o) := by
  rcases isOp_kind h with hk | hk | hk
  · obtain ⟨e, hr⟩ := opI_of h hk
    have hu : unitsO o = o.r.map (fun r => Un.ins r o.s) := by unfold unitsO; rw [if_pos hk]
    rw [hu, makesU_ins]; omega
  · have hu : unitsO o = List.replicate o.n.toNat .del := by unfold unitsO; rw [if_neg (by rw [hk]; decide), if_neg (by rw [hk]; decide)]
    have hm : ∀ n, makesU (List.replicate n Un.del) = 0 := fun n => by
      induction n with
      | zero => rfl
      | succ n ih => rw [List.replicate_succ, makesU_d, ih]
    rw [hu, hm]; omega
  · have hu : unitsO o = List.replicate o.n.toNat (.ret o.p) := by unfold unitsO; rw [if_neg (by rw [hk]; decide), if_pos hk]
    rw [hu, makesU_ret, takesU_ret]; omega
end Go.Proofs.YtfnkjcodcoehcaaGreatDoor
namespace Go.Proofs.YtfnkjcodcoehcaaGreatDoor
open Go.RowKit
set_option linter.unusedVariables false
set_option linter.unusedSimpArgs false

theorem lastIs {d : List ClS} {x : ClS} (h : d[d.length - 1]? = some x) : (clsOf d).getLast? = some x.c := by
  rw [List.getLast?_eq_getElem?]
  unfold clsOf
  rw [List.length_map, List.getElem?_map, h]
  rfl
set_option maxRecDepth 100000 in
set_option maxHeartbeats 1600000 in
theorem mayCells_any (s : Nat) (l : List Ky) (A : Option Addr) (n c : Nat) (d : List ClS) (w : World) (hn : n = d.length) (h : RdCl w w.heap.size A d) (hb : n ≤ 100000) (hS : Sch w s l)
    (hcs : ∀ x ∈ d, x.c.s.length ≤ 100000000 ∧ okVr x.c.s) (hT : Lib.Utf8Tabs 1 2 w) :
    Calls Tryz.prog 56 #[.pointer (some ⟨s, 0, none⟩), .slice A n c] w fun e w' => e = .returned (.int .i64 (mayD l (clsOf d))) ∧ Below w.heap.size w w' := by
  have ya := ext_alloc w (.cells #[.pointer (some ⟨s, 0, none⟩)] 26)
  have yb := ext_alloc (w.alloc (.cells #[.pointer (some ⟨s, 0, none⟩)] 26)) (.cells #[.slice A n c] 23)
  have g1 := heap_alloc_new w (.cells #[.pointer (some ⟨s, 0, none⟩)] 26)
  have g2 := heap_alloc_new (w.alloc (.cells #[.pointer (some ⟨s, 0, none⟩)] 26)) (.cells #[.slice A n c] 23)
  have G1 := (yb.block w.heap.size (by simp)).trans g1
  rw [World.size_alloc] at g2
  have y := ext_trans ya yb
  have k1 : ∀ w', Below ((w.alloc (.cells #[.pointer (some ⟨s, 0, none⟩)] 26)).alloc (.cells #[.slice A n c] 23)).heap.size ((w.alloc (.cells #[.pointer (some ⟨s, 0, none⟩)] 26)).alloc (.cells #[.slice A n c] 23)) w' →
      Below w.heap.size w w' ∧ RdCs w' w'.heap.size A d ∧ (∀ x ∈ d, ClIn w' w.heap.size s l x) ∧ w'.heap[w.heap.size + 1]? = some (.cells #[.slice A n c] 23 (0, 0)) := fun w' z => by
    have yz := ext_trans y z
    have g1' := (z.block w.heap.size (lt_of_some G1)).trans G1
    exact ⟨yz, h.1.ext yz, fun x hx => ⟨hS.ext yz, g1', (h.2 x hx).ext yz, (hcs x hx).1, (hcs x hx).2, Utf8Tabs_below hT yz⟩, (z.block _ (lt_of_some g2)).trans g2⟩
  have K := Lib.hid k1
  have N := Lib.hid hn
  have c0 := box_1 g2
  have hsz : Hid (((w.alloc (.cells #[.pointer (some ⟨s, 0, none⟩)] 26)).alloc (.cells #[.slice A n c] 23)).heap.size = w.heap.size + 2) := Lib.hid (by simp)
  have HH := Lib.hid h
  generalize hm : mayD l (clsOf d) = m
  unfold mayD at hm
  have hlen : (clsOf d).length = n := by rw [hn]; unfold clsOf; rw [List.length_map]
  rw [hlen] at hm
  clear ya yb g1 g2 G1 k1 hS hcs hT h
  by_cases h1 : n < 1
  · rw [if_pos (.inl h1)] at hm
    subst hm
    have h2 : ((n : Int) < 1) := by omega
    clear hlen hn
    go_enter Tryz.func56, Tryz.ntmps56
    go_wp2_with (fail)
    go_ret
    exact ⟨rfl, y⟩
  · rw [if_neg (by omega)] at hm
    have h2 : ¬ ((n : Int) < 1) := by omega
    obtain ⟨x, hx⟩ : ∃ x, d[d.length - 1]? = some x := ⟨d[d.length - 1]'(by omega), by rw [List.getElem?_eq_getElem]⟩
    have hlast := lastIs hx
    rw [hlast] at hm
    have HM := Lib.hid hm
    have HX := Lib.hid hx
    have e1 : (1 : Int) ≤ (n : Int) := by omega
    have e2 : (n : Int) - 1 < (n : Int) := by omega
    have hnd : n - 1 = d.length - 1 := by rw [hn]
    have HND := Lib.hid hnd
    clear hm hlen hlast hx hnd hn
    go_enter Tryz.func56, Tryz.ntmps56
    go_wp2_with (go_at_call 127; refine Hid.out ?_)
    refine Lib.hid ?_
    obtain ⟨_, q1, q2, q3⟩ := K.out _ (Below.refl _ _)
    refine (csome2_any w.heap.size (w.heap.size + 1) s l A n c d _ N.out q1 (by omega) q2 q3).mono ?_
    clear q1 q2 q3
    rintro e w1 ⟨rfl, y1⟩
    cases ha : (clsOf d).any (badR l) with
    | true =>
      have hm := HM.out
      rw [if_pos ha] at hm
      subst hm
      clear ha
      have yy := ext_trans y y1
      go_wp2_with (fail)
      go_ret
      exact ⟨rfl, yy⟩
    | false =>
      have hm := HM.out
      rw [if_neg (by rw [ha]; simp)] at hm
      have HM2 := Lib.hid hm
      clear ha hm HM
      go_wp2_with (go_at_call 127; refine Hid.out ?_)
      refine Lib.hid ?_
      obtain ⟨_, q1, q2, q3⟩ := K.out w1 y1
      refine (csome3_any w.heap.size (w.heap.size + 1) s l A n c d _ N.out q1 (by omega) q2 q3).mono ?_
      clear q1 q2 q3
      rintro e w2 ⟨rfl, y2⟩
      have y12 := ext_trans y1 y2
      obtain ⟨yy, q1, q2, q3⟩ := K.out w2 y12
      cases ha : (clsOf d).any (badK l) with
      | true =>
        have hm := HM2.out
        rw [if_pos ha] at hm
        subst hm
        clear ha q1 q2 q3
        go_wp2_with (fail)
        go_ret
        exact ⟨rfl, yy⟩
      | false =>
        have hm := HM2.out
        rw [if_neg (by rw [ha]; simp)] at hm
        obtain ⟨ad, x', rfl, _, _, hx', hcx⟩ := q1.el (i := d.length - 1) (by have := N.out; omega)
        rw [HX.out] at hx'
        injection hx' with hx'
        subst hx'
        obtain ⟨⟨r, p⟩, As, cs⟩ := x
        rw [← HND.out] at hcx
        obtain ⟨z0, z1⟩ := cl_cells hcx
        have d0 := box_1 q3
        have HM3 := Lib.hid hm
        clear ha hm q1 q2 q3 hcx HM2
        by_cases hr : r = 10
        · subst hr
          have hm := HM3.out
          rw [if_neg (by simp)] at hm
          have HM4 := Lib.hid hm
          clear hm HM3
          go_wp2_with (go_at_call 127; refine Hid.out ?_)
          refine Lib.hid ?_
          obtain ⟨_, q1, q2, q3⟩ := K.out w2 y12
          refine (csome4_any w.heap.size (w.heap.size + 1) s l _ n c d _ N.out q1 (by omega) q2 q3).mono ?_
          clear q1 q2 q3
          rintro e w3 ⟨rfl, y3⟩
          have yz := (K.out w3 (ext_trans y12 y3)).1
          cases ha : (clsOf d).any (badP l) with
          | true =>
            have hm := HM4.out
            rw [if_pos ha] at hm
            subst hm
            clear ha
            go_wp2_with (fail)
            go_ret
            exact ⟨rfl, yz⟩
          | false =>
            have hm := HM4.out
            rw [if_neg (by rw [ha]; simp)] at hm
            subst hm
            clear ha
            go_wp2_with (fail)
            go_ret
            exact ⟨rfl, yz⟩
        · have hm := HM3.out
          rw [if_pos (by simp [hr])] at hm
          subst hm
          have hne : (r == 10) = false := beq_eq_false_iff_ne.2 hr
          clear hr
          go_wp2_with (fail)
          go_ret
          exact ⟨rfl, yy⟩
end Go.Proofs.YtfnkjcodcoehcaaGreatDoor
