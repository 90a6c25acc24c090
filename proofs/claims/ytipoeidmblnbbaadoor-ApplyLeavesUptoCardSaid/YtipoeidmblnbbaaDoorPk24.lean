/- Merged texts: StayLaw, ApplyLaw. -/
import Derived.Test.YtipoeidmblnbbaaDoorPk22
import Derived.Test.YtipoeidmblnbbaaDoorPk10
import Derived.Test.YtipoeidmblnbbaaDoorPk12
import Derived.Test.YtipoeidmblnbbaaDoorPk23
import Derived.Test.YtipoeidmblnbbaaDoorPk13
/- The plain laws of what stays: patches and sets that may be lead to such that may be. -/
namespace Go.Proofs.YtipoeidmblnbbaaDoor
set_option linter.unusedVariables false
set_option linter.unusedSimpArgs false

theorem keys_lenC {l : List Ky} {p : List Ch} (hp : riseC p = true) (h : ∀ c ∈ p, thereC l c = true) : p.length ≤ l.length := by
  have h1 := riseC_srt.1 hp
  have h2 : (p.map (·.key)).Pairwise (· < ·) := List.pairwise_map.2 h1
  have h3 := keys_len (l := l) h2 (fun k hk => by
    obtain ⟨c, hc, rfl⟩ := List.mem_map.1 hk
    have := h c hc
    unfold thereC at this
    exact (Bool.and_eq_true_iff.1 this).1)
  simpa using h3
/-- a patch whose keys rise, whose changes each may be -/
theorem stayC {l : List Ky} (hl : l.length ≤ 64) {p : List Ch} (hs : Srt Ch.key p) (h : ∀ c ∈ p, okC c = true ∧ thereC l c = true) : mayP l p = 0 :=
  mayP_of (by have := keys_lenC (l := l) (riseC_srt.2 hs) (fun c hc => (h c hc).2); omega) (riseC_srt.2 hs) (fun c hc => (h c hc).1) (fun c hc => (h c hc).2)
theorem gone_ok {l : List Ky} {k : Int} (h : (findK l k).isSome = true) : okC ⟨k, true, V.zero⟩ = true ∧ thereC l ⟨k, true, V.zero⟩ = true := by
  refine ⟨?_, by unfold thereC; rw [h]; rfl⟩
  unfold okC
  rw [if_pos rfl]
  exact beqV_eq rfl
theorem set_ok {l : List Ky} {k : Int} {v : V} (h1 : mayV v = true) (h2 : fitsK l k v = true) : okC ⟨k, false, v⟩ = true ∧ thereC l ⟨k, false, v⟩ = true := by
  refine ⟨?_, ?_⟩
  · unfold okC; rw [if_neg (by simp)]; exact h1
  · unfold thereC; rw [fits_some h2, h2]; rfl

section
variable {l : List Ky} {a b : List At} {p q : List Ch}
theorem mem_diff (a1 : riseA a = true) (b1 : riseA b = true) {c : Ch} (hc : c ∈ diffP a b) : (∃ x ∈ a, c = goneC x) ∨ ∃ y ∈ b, c = chg y := by
  obtain ⟨d1, d2, _⟩ := diff_all (riseA_srt.1 b1) (riseA_srt.1 a1)
  have h1 := lk_of_mem Ch.key d1 hc
  rw [d2] at h1
  cases hx : lk At.key a c.key with
  | none =>
    cases hy : lk At.key b c.key with
    | none => rw [hx, hy] at h1; cases h1
    | some y =>
      rw [hx, hy] at h1
      simp only [lkDiff, Option.some.injEq] at h1
      exact .inr ⟨y, lk_mem At.key hy, h1.symm⟩
  | some x =>
    cases hy : lk At.key b c.key with
    | none =>
      rw [hx, hy] at h1
      simp only [lkDiff, Option.some.injEq] at h1
      exact .inl ⟨x, lk_mem At.key hx, h1.symm⟩
    | some y =>
      rw [hx, hy] at h1
      simp only [lkDiff] at h1
      by_cases hv : x.v = y.v
      · rw [if_pos hv] at h1; cases h1
      · rw [if_neg hv] at h1
        simp only [Option.some.injEq] at h1
        exact .inr ⟨y, lk_mem At.key hy, h1.symm⟩
theorem mem_comp (p1 : riseC p = true) (q1 : riseC q = true) {c : Ch} (hc : c ∈ composeP p q) : c ∈ p ∨ c ∈ q := by
  obtain ⟨d1, d2, _⟩ := compose_all (riseC_srt.1 q1) (riseC_srt.1 p1)
  have h1 := lk_of_mem Ch.key d1 hc
  rw [d2] at h1
  cases hy : lk Ch.key q c.key with
  | some y =>
    rw [hy] at h1
    have hm := lk_mem Ch.key hy
    simp at h1
    rw [← h1]
    exact .inr hm
  | none =>
    rw [hy] at h1
    have h1 : lk Ch.key p c.key = some c := by simpa using h1
    exact .inl (lk_mem Ch.key h1)
theorem mem_inv (p1 : riseC p = true) {c : Ch} (hc : c ∈ invertP a p) : (∃ y ∈ p, c = ⟨y.key, true, V.zero⟩) ∨ ∃ x ∈ a, c = ⟨x.key, false, x.v⟩ := by
  obtain ⟨d1, d2, _⟩ := invert_all (s := a) (riseC_srt.1 p1)
  have h1 := lk_of_mem Ch.key d1 hc
  rw [d2] at h1
  cases hy : lk Ch.key p c.key with
  | none => rw [hy] at h1; cases h1
  | some y =>
    have hm := lk_mem Ch.key hy
    have hyk : y.key = c.key := lk_key Ch.key hy
    cases hx : lk At.key a c.key with
    | none =>
      rw [hx, hy] at h1
      simp only [lkInv] at h1
      by_cases hg : y.gone = true
      · rw [if_pos hg] at h1; cases h1
      · rw [if_neg hg] at h1
        simp only [Option.some.injEq] at h1
        exact .inl ⟨y, hm, h1.symm⟩
    | some x =>
      have hmx := lk_mem At.key hx
      have hxk : x.key = c.key := lk_key At.key hx
      rw [hx, hy] at h1
      simp only [lkInv] at h1
      by_cases hg : y.gone = true ∨ ¬ x.v = y.v
      · rw [if_pos hg] at h1
        simp only [Option.some.injEq] at h1
        refine .inr ⟨x, hmx, ?_⟩
        rw [← h1, hyk, hxk]
      · rw [if_neg hg] at h1; cases h1
theorem stay_diff (hl : l.length ≤ 64) (ha : mayS l a = 0) (hb : mayS l b = 0) : mayP l (diffP a b) = 0 := by
  obtain ⟨_, a1, a2, a3⟩ := mayS_zero ha
  obtain ⟨_, b1, b2, b3⟩ := mayS_zero hb
  obtain ⟨d1, _⟩ := diff_all (riseA_srt.1 b1) (riseA_srt.1 a1)
  refine stayC hl d1 fun c hc => ?_
  rcases mem_diff a1 b1 hc with ⟨x, hx, rfl⟩ | ⟨y, hy, rfl⟩
  · exact gone_ok (fits_some (a3 x hx))
  · exact set_ok (b2 y hy) (b3 y hy)
theorem stay_comp (hl : l.length ≤ 64) (hp : mayP l p = 0) (hq : mayP l q = 0) : mayP l (composeP p q) = 0 := by
  obtain ⟨_, p1, p2, p3⟩ := mayP_zero hp
  obtain ⟨_, q1, q2, q3⟩ := mayP_zero hq
  obtain ⟨d1, _⟩ := compose_all (riseC_srt.1 q1) (riseC_srt.1 p1)
  refine stayC hl d1 fun c hc => ?_
  rcases mem_comp p1 q1 hc with hm | hm
  · exact ⟨List.all_eq_true.1 p2 c hm, List.all_eq_true.1 p3 c hm⟩
  · exact ⟨List.all_eq_true.1 q2 c hm, List.all_eq_true.1 q3 c hm⟩
theorem stay_inv (hl : l.length ≤ 64) (ha : mayS l a = 0) (hp : mayP l p = 0) : mayP l (invertP a p) = 0 := by
  obtain ⟨_, a1, a2, a3⟩ := mayS_zero ha
  obtain ⟨_, p1, p2, p3⟩ := mayP_zero hp
  obtain ⟨d1, _⟩ := invert_all (s := a) (riseC_srt.1 p1)
  refine stayC hl d1 fun c hc => ?_
  rcases mem_inv p1 hc with ⟨y, hy, rfl⟩ | ⟨x, hx, rfl⟩
  · have hth := List.all_eq_true.1 p3 y hy
    unfold thereC at hth
    exact gone_ok (Bool.and_eq_true_iff.1 hth).1
  · exact set_ok (a2 x hx) (a3 x hx)
/-- the values stay in their ranges -/
theorem zero_ok : okV V.zero ∧ V.zero.s.size ≤ 100000000 := ⟨⟨by decide, by decide, by decide, by decide, by decide, by decide⟩, by decide⟩
theorem vs_diff (a1 : riseA a = true) (b1 : riseA b = true) (vb : okVa b) : okVs (diffP a b) := fun c hc => by
  rcases mem_diff a1 b1 hc with ⟨x, hx, rfl⟩ | ⟨y, hy, rfl⟩
  · exact zero_ok
  · exact vb y hy
theorem vs_comp (p1 : riseC p = true) (q1 : riseC q = true) (vp : okVs p) (vq : okVs q) : okVs (composeP p q) := fun c hc => by
  rcases mem_comp p1 q1 hc with hm | hm
  · exact vp c hm
  · exact vq c hm
theorem vs_inv (p1 : riseC p = true) (va : okVa a) : okVs (invertP a p) := fun c hc => by
  rcases mem_inv p1 hc with ⟨y, hy, rfl⟩ | ⟨x, hx, rfl⟩
  · exact zero_ok
  · exact va x hx
theorem vs_filter (f : Ch → Bool) (vp : okVs p) : okVs (p.filter f) := fun c hc => vp c (List.mem_filter.1 hc).1
theorem va_apply (a1 : riseA a = true) (p1 : riseC p = true) (va : okVa a) (vp : okVs p) : okVa (applyP p a) := fun c hc => by
  obtain ⟨d1, d2, _⟩ := apply_all (riseC_srt.1 p1) (riseA_srt.1 a1)
  have h1 := lk_of_mem At.key d1 hc
  rw [d2] at h1
  cases hy : lk Ch.key p c.key with
  | none =>
    rw [hy] at h1
    have h1 : lk At.key a c.key = some c := h1
    exact va c (lk_mem At.key h1)
  | some y =>
    rw [hy] at h1
    simp only [lkApply] at h1
    by_cases hg : y.gone = true
    · rw [if_pos hg] at h1; cases h1
    · rw [if_neg hg] at h1
      simp only [Option.some.injEq] at h1
      rw [← h1]
      exact vp y (lk_mem Ch.key hy)
theorem stay_filter (f : Ch → Bool) (hp : mayP l p = 0) : mayP l (p.filter f) = 0 := by
  obtain ⟨p0, p1, p2, p3⟩ := mayP_zero hp
  refine mayP_of (by have := List.length_filter_le f p; omega) (riseC_srt.2 ((riseC_srt.1 p1).filter Ch.key f)) (fun c hc => ?_) (fun c hc => ?_)
  · exact List.all_eq_true.1 p2 c (List.mem_filter.1 hc).1
  · exact List.all_eq_true.1 p3 c (List.mem_filter.1 hc).1
theorem stay_apply (hl : l.length ≤ 64) (ha : mayS l a = 0) (hp : mayP l p = 0) : mayS l (applyP p a) = 0 := by
  obtain ⟨_, a1, a2, a3⟩ := mayS_zero ha
  obtain ⟨_, p1, p2, p3⟩ := mayP_zero hp
  obtain ⟨d1, d2, _⟩ := apply_all (riseC_srt.1 p1) (riseA_srt.1 a1)
  refine stayA hl d1 fun c hc => ?_
  have h1 := lk_of_mem At.key d1 hc
  rw [d2] at h1
  cases hy : lk Ch.key p c.key with
  | none =>
    rw [hy] at h1
    have h1 : lk At.key a c.key = some c := h1
    have hm := lk_mem At.key h1
    exact ⟨a2 c hm, a3 c hm⟩
  | some y =>
    have hm := lk_mem Ch.key hy
    rw [hy] at h1
    simp only [lkApply] at h1
    by_cases hg : y.gone = true
    · rw [if_pos hg] at h1; cases h1
    · rw [if_neg hg] at h1
      simp only [Option.some.injEq] at h1
      have hok := List.all_eq_true.1 p2 y hm
      have hth := List.all_eq_true.1 p3 y hm
      have hg' : y.gone = false := by simpa using hg
      unfold okC at hok
      rw [if_neg hg] at hok
      unfold thereC at hth
      rw [hg', Bool.false_or] at hth
      rw [← h1]
      exact ⟨hok, (Bool.and_eq_true_iff.1 hth).2⟩
end
end Go.Proofs.YtipoeidmblnbbaaDoor
/- What apply.Apply makes of cells, told by ops and by units, and that it may be a document. Plain mathematics. -/
namespace Go.Proofs.YtipoeidmblnbbaaDoor
set_option linter.unusedVariables false
set_option linter.unusedSimpArgs false

/-- how many cells an op takes -/
def tkN (o : Opd) : Nat := if o.k = 2 then 0 else o.n.toNat
/-- the cells that an op is laid on -/
def layC (o : Opd) (d : List Cl) : List Cl := if o.k = 2 then o.r.map (fun r => ⟨r, o.s⟩) else if o.k = 1 then d.take o.n.toNat else []
/-- what ops make of cells -/
def eachC (l : List Ky) : List Opd → List Cl → List Cl
  | [], d => d
  | o :: x, d => (layC o d).map (fun c => actC l c o.p) ++ eachC l x (d.drop (tkN o))
theorem app_ins (l : List Ky) (r : List Int) (s : List At) (d : List Cl) : app l (r.map (fun r => Un.ins r s)) d = r.map (fun r => (⟨r, s⟩ : Cl)) ++ d := by
  induction r with
  | nil => rfl
  | cons a r ih => show _ :: app l _ d = _; rw [ih]; rfl
theorem app_dels (l : List Ky) (n : Nat) (d : List Cl) : app l (List.replicate n .del) d = d.drop n := by
  induction n generalizing d with
  | zero => rfl
  | succ n ih => rw [List.replicate_succ]; show app l _ (d.drop 1) = _; rw [ih, List.drop_drop, Nat.add_comm 1]
theorem app_rets (l : List Ky) (n : Nat) (p : List Ch) (d : List Cl) : app l (List.replicate n (.ret p)) d = (d.take n).map (fun c => actC l c p) ++ d.drop n := by
  induction n generalizing d with
  | zero => rfl
  | succ n ih =>
    rw [List.replicate_succ]
    show (d.take 1).map _ ++ app l _ (d.drop 1) = _
    rw [ih, List.drop_drop, Nat.add_comm 1, ← List.append_assoc, ← List.map_append]
    congr 2
    cases d with
    | nil => simp
    | cons c d => simp
theorem takesU_ins (r : List Int) (s : List At) : takesU (r.map (fun r => Un.ins r s)) = 0 := by
  induction r with
  | nil => rfl
  | cons a r ih => rw [List.map_cons, takesU_i, ih]
theorem makesU_ins (r : List Int) (s : List At) : makesU (r.map (fun r => Un.ins r s)) = r.length := by
  induction r with
  | nil => rfl
  | cons a r ih => rw [List.map_cons, makesU_i, ih]; rfl
theorem takesU_ret (n : Nat) (p : List Ch) : takesU (List.replicate n (.ret p)) = n := by
  induction n with
  | zero => rfl
  | succ n ih => rw [List.replicate_succ, takesU_r, ih]
theorem makesU_ret (n : Nat) (p : List Ch) : makesU (List.replicate n (.ret p)) = n := by
  induction n with
  | zero => rfl
  | succ n ih => rw [List.replicate_succ, makesU_r, ih]
theorem takesU_tk {o : Opd} (ho : isOp o) : takesU (unitsO o) = tkN o := by
  unfold tkN
  rcases isOp_kind ho with hk | hk | hk
  · obtain ⟨e, hr⟩ := opI_of ho hk
    rw [if_pos hk, e, unitsO_I, takesU_ins]
  · obtain ⟨e, hr⟩ := opD_of ho hk
    rw [if_neg (by rw [hk]; decide), e, unitsO_D, takesU_del]; rfl
  · obtain ⟨e, hr⟩ := opR_of ho hk
    rw [if_neg (by rw [hk]; decide), e, unitsO_R, takesU_ret]; rfl
theorem each_app (l : List Ky) : ∀ (x : List Opd) (d : List Cl), (∀ o ∈ x, isOp o) → eachC l x d = app l (units x) d
  | [], d, _ => rfl
  | o :: x, d, h => by
    have ih := each_app l x (d.drop (tkN o)) (fun a ha => h a (List.mem_cons_of_mem _ ha))
    have ho := h o (by simp)
    rw [units_cons, app_append, eachC, ih, takesU_tk ho]
    congr 1
    unfold layC tkN
    rcases isOp_kind ho with hk | hk | hk
    · obtain ⟨e, hr⟩ := opI_of ho hk
      rw [if_pos hk, if_pos hk]
      have hp : o.p = [] := by rw [e]; rfl
      have hu : unitsO o = o.r.map (fun r => Un.ins r o.s) := by unfold unitsO; rw [if_pos hk]
      rw [hp, hu, app_ins, List.map_map]
      simp [actC_nil, Function.comp_def]
    · obtain ⟨e, hr⟩ := opD_of ho hk
      rw [if_neg (by rw [hk]; decide), if_neg (by rw [hk]; decide), if_neg (by rw [hk]; decide)]
      have hu : unitsO o = List.replicate o.n.toNat .del := by unfold unitsO; rw [if_neg (by rw [hk]; decide), if_neg (by rw [hk]; decide)]
      rw [hu, app_dels]
      simp
    · obtain ⟨e, hr⟩ := opR_of ho hk
      rw [if_neg (by rw [hk]; decide), if_pos hk, if_neg (by rw [hk]; decide)]
      have hu : unitsO o = List.replicate o.n.toNat (.ret o.p) := by unfold unitsO; rw [if_neg (by rw [hk]; decide), if_pos hk]
      rw [hu, app_rets, List.take_take, Nat.min_self]
      simp

theorem keep_not {l : List Ky} {b : Bool} {id : Int} (h : keepK l b id = true) (h' : keepK l (!b) id = true) : False := by
  unfold keepK at h h'
  cases hq : findK l id with
  | none => rw [hq] at h; cases h
  | some k => rw [hq] at h h'; cases b <;> cases hk : k.block <;> simp [hk] at h h'
/-- a cell that may be stays one with a patch on it -/
theorem okCl_act {l : List Ky} {c : Cl} {p : List Ch} (hl : l.length ≤ 64) (hc : okCl l c) (hp : mayP l p = 0) : okCl l (actC l c p) := by
  obtain ⟨h1, h2, h3⟩ := hc
  have hp2 : mayP l (partP l (c.r == 10) p) = 0 := stay_filter _ hp
  refine ⟨h1, stay_apply hl h2 hp2, ?_⟩
  obtain ⟨_, s1, s2, s3⟩ := mayS_zero h2
  obtain ⟨_, p1, p2, p3⟩ := mayP_zero hp2
  obtain ⟨a1, a2, _⟩ := apply_all (riseC_srt.1 p1) (riseA_srt.1 s1)
  show partS l (!(c.r == 10)) (applyP (partP l (c.r == 10) p) c.s) = []
  generalize (c.r == 10) = b at *
  unfold partS
  refine List.filter_eq_nil_iff.2 fun x hx hk => ?_
  have e := lk_of_mem At.key a1 hx
  rw [a2] at e
  cases hq : lk Ch.key (partP l b p) x.key with
  | none =>
    rw [hq] at e
    have e : lk At.key c.s x.key = some x := e
    have hm : x ∈ partS l (!b) c.s := List.mem_filter.2 ⟨lk_mem At.key e, hk⟩
    rw [h3] at hm; cases hm
  | some y =>
    have hy := lk_mem Ch.key hq
    have hyk : y.key = x.key := lk_key Ch.key hq
    have := (List.mem_filter.1 hy).2
    simp only [hyk] at this
    exact keep_not this hk
theorem app_ok {l : List Ky} (hl : l.length ≤ 64) : ∀ (us : List Un) (d : List Cl), (∀ u ∈ us, vU l u) → (∀ c ∈ d, okCl l c) → ∀ c ∈ app l us d, okCl l c
  | [], d, _, hd => hd
  | .ins r s :: us, d, hu, hd => by
    intro c hc
    rcases List.mem_cons.1 hc with rfl | hc
    · exact hu (.ins r s) (by simp)
    · exact app_ok hl us d (fun u h => hu u (List.mem_cons_of_mem _ h)) hd c hc
  | .del :: us, d, hu, hd => app_ok hl us (d.drop 1) (fun u h => hu u (List.mem_cons_of_mem _ h)) (fun c hc => hd c (List.mem_of_mem_drop hc))
  | .ret p :: us, d, hu, hd => by
    intro c hc
    rcases List.mem_append.1 hc with hc | hc
    · obtain ⟨x, hx, rfl⟩ := List.mem_map.1 hc
      exact okCl_act hl (hd x (List.mem_of_mem_take hx)) (hu (.ret p) (by simp))
    · exact app_ok hl us (d.drop 1) (fun u h => hu u (List.mem_cons_of_mem _ h)) (fun c hc => hd c (List.mem_of_mem_drop hc)) c hc

theorem mayD_iff {l : List Ky} {d : List Cl} : mayD l d = 0 ↔ d.length ≤ 536870912 ∧ (∀ c ∈ d, okCl l c) ∧ ∃ t c, d = t ++ [c] ∧ c.r = 10 := by
  constructor
  · intro h
    unfold mayD at h
    split at h
    · cases h
    rename_i h0
    split at h
    · cases h
    rename_i h1
    split at h
    · cases h
    rename_i h2
    split at h
    · cases h
    rename_i h3
    split at h
    · cases h
    rename_i h4
    refine ⟨by omega, fun c hc => ?_, ?_⟩
    · have g1 := List.any_eq_false.1 (Bool.eq_false_iff.2 h1) c hc
      have g2 := List.any_eq_false.1 (Bool.eq_false_iff.2 h2) c hc
      have g4 := List.any_eq_false.1 (Bool.eq_false_iff.2 h4) c hc
      unfold badR at g1
      unfold badK at g2
      unfold badP at g4
      simp at g1 g2 g4
      exact ⟨g1.1, g2, g4⟩
    · rcases List.eq_nil_or_concat d with h0 | ⟨t, c, h0⟩
      · subst h0; simp at h3
      · rw [List.concat_eq_append] at h0
        subst h0
        exact ⟨t, c, rfl, by simpa using h3⟩
  · rintro ⟨h0, h1, t, c, rfl, h3⟩
    have g1 : (t ++ [c]).any (badR l) = false := List.any_eq_false.2 fun x hx => by
      obtain ⟨a, b, _⟩ := h1 x hx
      unfold badR
      rw [a, b]; decide
    have g2 : (t ++ [c]).any (badK l) = false := List.any_eq_false.2 fun x hx => by
      obtain ⟨a, b, _⟩ := h1 x hx
      unfold badK
      rw [b]; decide
    have g4 : (t ++ [c]).any (badP l) = false := List.any_eq_false.2 fun x hx => by
      obtain ⟨a, b, e⟩ := h1 x hx
      unfold badP
      rw [e]; simp
    unfold mayD
    rw [if_neg (by simp at h0 ⊢; omega), g1, g2, g4, if_neg (by decide), if_neg (by decide), if_neg (by simp [h3]), if_neg (by decide)]
theorem finU_end {n : Nat} : ∀ {us : List Un}, finU n n us = true → takesU us = 0 → us = []
  | [], _, _ => rfl
  | .ins r s :: us, h, _ => by simp [finU] at h
  | .del :: us, _, h => by rw [takesU_d] at h; omega
  | .ret p :: us, _, h => by rw [takesU_r] at h; omega
/-- the last cell's rune stays -/
theorem app_last (l : List Ky) : ∀ (us : List Un) (t : List Cl) (c : Cl) (n a : Nat), takesU us ≤ t.length + 1 → finU n a us = true → n = a + (t.length + 1) → ∃ t' c', app l us (t ++ [c]) = t' ++ [c'] ∧ c'.r = c.r
  | [], t, c, n, a, _, _, _ => ⟨t, c, rfl, rfl⟩
  | .ins r s :: us, t, c, n, a, h1, h2, h3 => by
    simp only [finU, Bool.and_eq_true] at h2
    obtain ⟨t', c', e, hr⟩ := app_last l us t c n a (by rw [takesU_i] at h1; exact h1) h2.2 h3
    exact ⟨⟨r, s⟩ :: t', c', by show _ :: app l us _ = _; rw [e]; rfl, hr⟩
  | .del :: us, t, c, n, a, h1, h2, h3 => by
    simp only [finU, Bool.and_eq_true, decide_eq_true_eq] at h2
    rw [takesU_d] at h1
    cases t with
    | nil => simp at h3; omega
    | cons x t =>
      obtain ⟨t', c', e, hr⟩ := app_last l us t c n (a + 1) (by simp at h1; omega) h2.2 (by simp at h3; omega)
      exact ⟨t', c', e, hr⟩
  | .ret p :: us, t, c, n, a, h1, h2, h3 => by
    simp only [finU] at h2
    rw [takesU_r] at h1
    cases t with
    | nil =>
      have e0 : us = [] := finU_end (n := n) (by rw [show a + 1 = n by simp at h3; omega] at h2; exact h2) (by simp at h1; omega)
      subst e0
      exact ⟨[], actC l c p, rfl, rfl⟩
    | cons x t =>
      obtain ⟨t', c', e, hr⟩ := app_last l us t c n (a + 1) (by simp at h1; omega) h2 (by simp at h3; omega)
      exact ⟨actC l x p :: t', c', by show [actC l x p] ++ app l us (t ++ [c]) = _; rw [e]; rfl, hr⟩
/-- what a delta that fits makes of a document that may be is one -/
theorem app_mayD {l : List Ky} {us : List Un} {d : List Cl} {most : Nat} (hl : l.length ≤ 64) (hd : mayD l d = 0) (hf : FitU l us d.length most) (hb : d.length + makesU us ≤ 536870912 + takesU us) : mayD l (app l us d) = 0 := by
  obtain ⟨h0, h1, t, c, rfl, h3⟩ := mayD_iff.1 hd
  obtain ⟨t', c', e, hr⟩ := app_last l us t c (t ++ [c]).length 0 (by have := hf.t; simpa using this) hf.f (by simp)
  have hlen := app_len l us (t ++ [c]) hf.t
  exact mayD_iff.2 ⟨by omega, app_ok hl us _ hf.v h1, t', c', e, hr.trans h3⟩
end Go.Proofs.YtipoeidmblnbbaaDoor
