/- Merged texts: StayLaw, ApplyLaw, EachLaw, InsOps, OpTypes, SliceCl, Foot, OwSet, StepFn, MkCat. -/
import Derived.Test.YtfnkjcodcoehcaaGreatDoorW7
import Derived.Test.YtfnkjcodcoehcaaGreatDoorW9
import Derived.Test.YtfnkjcodcoehcaaGreatDoorW6
import Derived.Test.YtfnkjcodcoehcaaGreatDoorW10
import Derived.Lib.Overlaps
import Derived.Test.YtfnkjcodcoehcaaGreatDoorW5
import Derived.IntWalk
import Derived.Test.YtfnkjcodcoehcaaGreatDoorW3
import Derived.Test.YtfnkjcodcoehcaaGreatDoorW1
import Derived.Deep.RegionLaw
import Derived.KernelRfl
import Derived.Lib.AppendZerosOnto
import Derived.Lib.Walk
import Derived.Lib.SliceRun
namespace Go.Proofs.YtfnkjcodcoehcaaGreatDoor
set_option linter.unusedVariables false
set_option linter.unusedSimpArgs false

section
variable {l : List Ky} {a b : List At} {p q : List Ch}
theorem vs_filter (f : Ch → Bool) (vp : okVs p) : okVs (p.filter f) := fun c hc => vp c (List.mem_filter.1 hc).1
theorem stay_filter (f : Ch → Bool) (hp : mayP l p = 0) : mayP l (p.filter f) = 0 := by
  obtain ⟨p0, p1, p2, p3⟩ := mayP_zero hp
  refine mayP_of (by have := List.length_filter_le f p; omega) (riseC_srt.2 ((riseC_srt.1 p1).filter Ch.key f)) (fun c hc => ?_) (fun c hc => ?_)
  · exact List.all_eq_true.1 p2 c (List.mem_filter.1 hc).1
  · exact List.all_eq_true.1 p3 c (List.mem_filter.1 hc).1
theorem stay_apply (hl : l.length ≤ 64) (ha : mayS l a = 0) (hp : mayP l p = 0) : mayS l (applyP p a) = 0 := by
  obtain ⟨_, a1, a2, a3⟩ := mayS_zero ha
  obtain ⟨_, p1, p2, p3⟩ := mayP_zero hp
  obtain ⟨d1, d2, _⟩ := apply_all (riseC_srt.1 p1) (riseA_srt.1 a1)
  refine stayA hl d1 fun c hc => ?_
  have h1 := lk_of_mem At.key d1 hc
  rw [d2] at h1
  cases hy : lk Ch.key p c.key with
  | none =>
    rw [hy] at h1
    have h1 : lk At.key a c.key = some c := h1
    have hm := lk_mem At.key h1
    exact ⟨a2 c hm, a3 c hm⟩
  | some y =>
    have hm := lk_mem Ch.key hy
    rw [hy] at h1
    simp only [lkApply] at h1
    by_cases hg : y.gone = true
    · rw [if_pos hg] at h1; cases h1
    · rw [if_neg hg] at h1
      simp only [Option.some.injEq] at h1
      have hok := List.all_eq_true.1 p2 y hm
      have hth := List.all_eq_true.1 p3 y hm
      have hg' : y.gone = false := by simpa using hg
      unfold okC at hok
      rw [if_neg hg] at hok
      unfold thereC at hth
      rw [hg', Bool.false_or] at hth
      rw [← h1]
      exact ⟨hok, (Bool.and_eq_true_iff.1 hth).2⟩
end
set_option linter.unusedVariables false
set_option linter.unusedSimpArgs false

def tkN (o : Opd) : Nat := if o.k = 2 then 0 else o.n.toNat
def layC (o : Opd) (d : List Cl) : List Cl := if o.k = 2 then o.r.map (fun r => ⟨r, o.s⟩) else if o.k = 1 then d.take o.n.toNat else []
def eachC (l : List Ky) : List Opd → List Cl → List Cl
  | [], d => d
  | o :: x, d => (layC o d).map (fun c => actC l c o.p) ++ eachC l x (d.drop (tkN o))
theorem app_ins (l : List Ky) (r : List Int) (s : List At) (d : List Cl) : app l (r.map (fun r => Un.ins r s)) d = r.map (fun r => (⟨r, s⟩ : Cl)) ++ d := by
  induction r with
  | nil => rfl
  | cons a r ih => show _ :: app l _ d = _; rw [ih]; rfl
theorem app_dels (l : List Ky) (n : Nat) (d : List Cl) : app l (List.replicate n .del) d = d.drop n := by
  induction n generalizing d with
  | zero => rfl
  | succ n ih => rw [List.replicate_succ]; show app l _ (d.drop 1) = _; rw [ih, List.drop_drop, Nat.add_comm 1]
theorem app_rets (l : List Ky) (n : Nat) (p : List Ch) (d : List Cl) : app l (List.replicate n (.ret p)) d = (d.take n).map (fun c => actC l c p) ++ d.drop n := by
  induction n generalizing d with
  | zero => rfl
  | succ n ih =>
    rw [List.replicate_succ]
    show (d.take 1).map _ ++ app l _ (d.drop 1) = _
    rw [ih, List.drop_drop, Nat.add_comm 1, ← List.append_assoc, ← List.map_append]
    congr 2
    cases d with
    | nil => simp
    | cons c d => simp
theorem takesU_ins (r : List Int) (s : List At) : takesU (r.map (fun r => Un.ins r s)) = 0 := by
  induction r with
  | nil => rfl
  | cons a r ih => rw [List.map_cons, takesU_i, ih]
theorem takesU_ret (n : Nat) (p : List Ch) : takesU (List.replicate n (.ret p)) = n := by
  induction n with
  | zero => rfl
  | succ n ih => rw [List.replicate_succ, takesU_r, ih]
theorem makesU_ret (n : Nat) (p : List Ch) : makesU (List.replicate n (.ret p)) = n := by
  induction n with
  | zero => rfl
  | succ n ih => rw [List.replicate_succ, makesU_r, ih]
theorem takesU_tk {o : Opd} (ho : isOp o) : takesU (unitsO o) = tkN o := by
  unfold tkN
  rcases isOp_kind ho with hk | hk | hk
  · obtain ⟨e, hr⟩ := opI_of ho hk
    rw [if_pos hk, e, unitsO_I, takesU_ins]
  · obtain ⟨e, hr⟩ := opD_of ho hk
    rw [if_neg (by rw [hk]; decide), e, unitsO_D, takesU_del]; rfl
  · obtain ⟨e, hr⟩ := opR_of ho hk
    rw [if_neg (by rw [hk]; decide), e, unitsO_R, takesU_ret]; rfl
theorem each_app (l : List Ky) : ∀ (x : List Opd) (d : List Cl), (∀ o ∈ x, isOp o) → eachC l x d = app l (units x) d
  | [], d, _ => rfl
  | o :: x, d, h => by
    have ih := each_app l x (d.drop (tkN o)) (fun a ha => h a (List.mem_cons_of_mem _ ha))
    have ho := h o (by simp)
    rw [units_cons, app_append, eachC, ih, takesU_tk ho]
    congr 1
    unfold layC tkN
    rcases isOp_kind ho with hk | hk | hk
    · obtain ⟨e, hr⟩ := opI_of ho hk
      rw [if_pos hk, if_pos hk]
      have hp : o.p = [] := by rw [e]; rfl
      have hu : unitsO o = o.r.map (fun r => Un.ins r o.s) := by unfold unitsO; rw [if_pos hk]
      rw [hp, hu, app_ins, List.map_map]
      simp [actC_nil, Function.comp_def]
    · obtain ⟨e, hr⟩ := opD_of ho hk
      rw [if_neg (by rw [hk]; decide), if_neg (by rw [hk]; decide), if_neg (by rw [hk]; decide)]
      have hu : unitsO o = List.replicate o.n.toNat .del := by unfold unitsO; rw [if_neg (by rw [hk]; decide), if_neg (by rw [hk]; decide)]
      rw [hu, app_dels]
      simp
    · obtain ⟨e, hr⟩ := opR_of ho hk
      rw [if_neg (by rw [hk]; decide), if_pos hk, if_neg (by rw [hk]; decide)]
      have hu : unitsO o = List.replicate o.n.toNat (.ret o.p) := by unfold unitsO; rw [if_neg (by rw [hk]; decide), if_pos hk]
      rw [hu, app_rets, List.take_take, Nat.min_self]
      simp

theorem keep_not {l : List Ky} {b : Bool} {id : Int} (h : keepK l b id = true) (h' : keepK l (!b) id = true) : False := by
  unfold keepK at h h'
  cases hq : findK l id with
  | none => rw [hq] at h; cases h
  | some k => rw [hq] at h h'; cases b <;> cases hk : k.block <;> simp [hk] at h h'
theorem okCl_act {l : List Ky} {c : Cl} {p : List Ch} (hl : l.length ≤ 64) (hc : okCl l c) (hp : mayP l p = 0) : okCl l (actC l c p) := by
  obtain ⟨h1, h2, h3⟩ := hc
  have hp2 : mayP l (partP l (c.r == 10) p) = 0 := stay_filter _ hp
  refine ⟨h1, stay_apply hl h2 hp2, ?_⟩
  obtain ⟨_, s1, s2, s3⟩ := mayS_zero h2
  obtain ⟨_, p1, p2, p3⟩ := mayP_zero hp2
  obtain ⟨a1, a2, _⟩ := apply_all (riseC_srt.1 p1) (riseA_srt.1 s1)
  show partS l (!(c.r == 10)) (applyP (partP l (c.r == 10) p) c.s) = []
  generalize (c.r == 10) = b at *
  unfold partS
  refine List.filter_eq_nil_iff.2 fun x hx hk => ?_
  have e := lk_of_mem At.key a1 hx
  rw [a2] at e
  cases hq : lk Ch.key (partP l b p) x.key with
  | none =>
    rw [hq] at e
    have e : lk At.key c.s x.key = some x := e
    have hm : x ∈ partS l (!b) c.s := List.mem_filter.2 ⟨lk_mem At.key e, hk⟩
    rw [h3] at hm; cases hm
  | some y =>
    have hy := lk_mem Ch.key hq
    have hyk : y.key = x.key := lk_key Ch.key hq
    have := (List.mem_filter.1 hy).2
    simp only [hyk] at this
    exact keep_not this hk
theorem app_ok {l : List Ky} (hl : l.length ≤ 64) : ∀ (us : List Un) (d : List Cl), (∀ u ∈ us, vU l u) → (∀ c ∈ d, okCl l c) → ∀ c ∈ app l us d, okCl l c
  | [], d, _, hd => hd
  | .ins r s :: us, d, hu, hd => by
    intro c hc
    rcases List.mem_cons.1 hc with rfl | hc
    · exact hu (.ins r s) (by simp)
    · exact app_ok hl us d (fun u h => hu u (List.mem_cons_of_mem _ h)) hd c hc
  | .del :: us, d, hu, hd => app_ok hl us (d.drop 1) (fun u h => hu u (List.mem_cons_of_mem _ h)) (fun c hc => hd c (List.mem_of_mem_drop hc))
  | .ret p :: us, d, hu, hd => by
    intro c hc
    rcases List.mem_append.1 hc with hc | hc
    · obtain ⟨x, hx, rfl⟩ := List.mem_map.1 hc
      exact okCl_act hl (hd x (List.mem_of_mem_take hx)) (hu (.ret p) (by simp))
    · exact app_ok hl us (d.drop 1) (fun u h => hu u (List.mem_cons_of_mem _ h)) (fun c hc => hd c (List.mem_of_mem_drop hc)) c hc

theorem mayD_iff {l : List Ky} {d : List Cl} : mayD l d = 0 ↔ d.length ≤ 536870912 ∧ (∀ c ∈ d, okCl l c) ∧ ∃ t c, d = t ++ [c] ∧ c.r = 10 := by
  constructor
  · intro h
    unfold mayD at h
    split at h
    · cases h
    rename_i h0
    split at h
    · cases h
    rename_i h1
    split at h
    · cases h
    rename_i h2
    split at h
    · cases h
    rename_i h3
    split at h
    · cases h
    rename_i h4
    refine ⟨by omega, fun c hc => ?_, ?_⟩
    · have g1 := List.any_eq_false.1 (Bool.eq_false_iff.2 h1) c hc
      have g2 := List.any_eq_false.1 (Bool.eq_false_iff.2 h2) c hc
      have g4 := List.any_eq_false.1 (Bool.eq_false_iff.2 h4) c hc
      unfold badR at g1
      unfold badK at g2
      unfold badP at g4
      simp at g1 g2 g4
      exact ⟨g1.1, g2, g4⟩
    · rcases List.eq_nil_or_concat d with h0 | ⟨t, c, h0⟩
      · subst h0; simp at h3
      · rw [List.concat_eq_append] at h0
        subst h0
        exact ⟨t, c, rfl, by simpa using h3⟩
  · rintro ⟨h0, h1, t, c, rfl, h3⟩
    have g1 : (t ++ [c]).any (badR l) = false := List.any_eq_false.2 fun x hx => by
      obtain ⟨a, b, _⟩ := h1 x hx
      unfold badR
      rw [a, b]; decide
    have g2 : (t ++ [c]).any (badK l) = false := List.any_eq_false.2 fun x hx => by
      obtain ⟨a, b, _⟩ := h1 x hx
      unfold badK
      rw [b]; decide
    have g4 : (t ++ [c]).any (badP l) = false := List.any_eq_false.2 fun x hx => by
      obtain ⟨a, b, e⟩ := h1 x hx
      unfold badP
      rw [e]; simp
    unfold mayD
    rw [if_neg (by simp at h0 ⊢; omega), g1, g2, g4, if_neg (by decide), if_neg (by decide), if_neg (by simp [h3]), if_neg (by decide)]
theorem finU_end {n : Nat} : ∀ {us : List Un}, finU n n us = true → takesU us = 0 → us = []
  | [], _, _ => rfl
  | .ins r s :: us, h, _ => by simp [finU] at h
  | .del :: us, _, h => by rw [takesU_d] at h; omega
  | .ret p :: us, _, h => by rw [takesU_r] at h; omega
theorem app_last (l : List Ky) : ∀ (us : List Un) (t : List Cl) (c : Cl) (n a : Nat), takesU us ≤ t.length + 1 → finU n a us = true → n = a + (t.length + 1) → ∃ t' c', app l us (t ++ [c]) = t' ++ [c'] ∧ c'.r = c.r
  | [], t, c, n, a, _, _, _ => ⟨t, c, rfl, rfl⟩
  | .ins r s :: us, t, c, n, a, h1, h2, h3 => by
    simp only [finU, Bool.and_eq_true] at h2
    obtain ⟨t', c', e, hr⟩ := app_last l us t c n a (by rw [takesU_i] at h1; exact h1) h2.2 h3
    exact ⟨⟨r, s⟩ :: t', c', by show _ :: app l us _ = _; rw [e]; rfl, hr⟩
  | .del :: us, t, c, n, a, h1, h2, h3 => by
    simp only [finU, Bool.and_eq_true, decide_eq_true_eq] at h2
    rw [takesU_d] at h1
    cases t with
    | nil => simp at h3; omega
    | cons x t =>
      obtain ⟨t', c', e, hr⟩ := app_last l us t c n (a + 1) (by simp at h1; omega) h2.2 (by simp at h3; omega)
      exact ⟨t', c', e, hr⟩
  | .ret p :: us, t, c, n, a, h1, h2, h3 => by
    simp only [finU] at h2
    rw [takesU_r] at h1
    cases t with
    | nil =>
      have e0 : us = [] := finU_end (n := n) (by rw [show a + 1 = n by simp at h3; omega] at h2; exact h2) (by simp at h1; omega)
      subst e0
      exact ⟨[], actC l c p, rfl, rfl⟩
    | cons x t =>
      obtain ⟨t', c', e, hr⟩ := app_last l us t c n (a + 1) (by simp at h1; omega) h2 (by simp at h3; omega)
      exact ⟨actC l x p :: t', c', by show [actC l x p] ++ app l us (t ++ [c]) = _; rw [e]; rfl, hr⟩
theorem app_mayD {l : List Ky} {us : List Un} {d : List Cl} {most : Nat} (hl : l.length ≤ 64) (hd : mayD l d = 0) (hf : FitU l us d.length most) (hb : d.length + makesU us ≤ 536870912 + takesU us) : mayD l (app l us d) = 0 := by
  obtain ⟨h0, h1, t, c, rfl, h3⟩ := mayD_iff.1 hd
  obtain ⟨t', c', e, hr⟩ := app_last l us t c (t ++ [c]).length 0 (by have := hf.t; simpa using this) hf.f (by simp)
  have hlen := app_len l us (t ++ [c]) hf.t
  exact mayD_iff.2 ⟨by omega, app_ok hl us _ hf.v h1, t', c', e, hr.trans h3⟩

def tks : List Opd → Nat
  | [] => 0
  | o :: x => tkN o + tks x
def doneC (l : List Ky) : List Opd → List Cl → List Cl
  | [], _ => []
  | o :: x, d => (layC o d).map (fun c => actC l c o.p) ++ doneC l x (d.drop (tkN o))
theorem tks_append (a b : List Opd) : tks (a ++ b) = tks a + tks b := by
  induction a with
  | nil => simp [tks]
  | cons o a ih => show tkN o + tks (a ++ b) = _; rw [ih]; simp only [tks]; omega
theorem doneC_append (l : List Ky) (a b : List Opd) : ∀ d, doneC l (a ++ b) d = doneC l a d ++ doneC l b (d.drop (tks a)) := by
  induction a with
  | nil => intro d; simp [doneC, tks]
  | cons o a ih =>
    intro d
    show _ ++ doneC l (a ++ b) (d.drop (tkN o)) = _
    rw [ih, List.drop_drop]
    simp only [doneC, tks, List.append_assoc]
theorem each_done (l : List Ky) (x : List Opd) : ∀ d, eachC l x d = doneC l x d ++ d.drop (tks x) := by
  induction x with
  | nil => intro d; simp [eachC, doneC, tks]
  | cons o x ih =>
    intro d
    show _ ++ eachC l x (d.drop (tkN o)) = _
    rw [ih, List.drop_drop]
    simp only [doneC, tks, List.append_assoc]
theorem each_append (l : List Ky) (a b : List Opd) (d : List Cl) : eachC l (a ++ b) d = doneC l a d ++ eachC l b (d.drop (tks a)) := by
  rw [each_done, each_done, doneC_append, tks_append, List.drop_drop, List.append_assoc]
theorem take_at {α : Type} {x : List α} {i : Nat} {o : α} (h : x[i]? = some o) : x.take (i + 1) = x.take i ++ [o] := by rw [List.take_add_one, h]; rfl
theorem doneC_at {l : List Ky} {x : List Opd} {i : Nat} {o : Opd} {d : List Cl} (h : x[i]? = some o) : doneC l (x.take (i + 1)) d = doneC l (x.take i) d ++ (layC o (d.drop (tks (x.take i)))).map (fun c => actC l c o.p) := by
  rw [take_at h, doneC_append]; simp [doneC]
theorem tks_at {x : List Opd} {i : Nat} {o : Opd} (h : x[i]? = some o) : tks (x.take (i + 1)) = tks (x.take i) + tkN o := by
  rw [take_at h, tks_append]; rfl
theorem tks_le {x : List Opd} (i : Nat) : tks (x.take i) ≤ tks x := by
  conv => rhs; rw [← List.take_append_drop i x]
  rw [tks_append]; omega
theorem done_le {l : List Ky} {x : List Opd} {i : Nat} {o : Opd} {d : List Cl} (h : x[i]? = some o) : (doneC l (x.take i) d).length + (layC o (d.drop (tks (x.take i)))).length ≤ (eachC l x d).length := by
  have e : x = x.take (i + 1) ++ x.drop (i + 1) := (List.take_append_drop _ _).symm
  conv => rhs; rw [e]
  rw [each_append, doneC_at h]
  simp
theorem tks_units {x : List Opd} (h : ∀ o ∈ x, isOp o) : tks x = takesU (units x) := by
  induction x with
  | nil => rfl
  | cons o x ih =>
    rw [units_cons, takesU_append, takesU_tk (h o (by simp)), ← ih (fun a ha => h a (List.mem_cons_of_mem _ ha))]; rfl
open Go.RowKit

section
variable {P : Program} (w : World)

theorem run_copy_onto (dT sT ty elem : TypeId) (i0 : TypeInfo) (size : Nat) (hu : P.underlying dT = some (.slice elem)) (hi : P.info? elem = some i0) (hsz : i0.size = size)
    (g o dLen dCap : Nat) (a : Addr) (sLen sCap : Nat) (cur : Array Value) (t : TypeId) (cs : List Value)
    (hg : w.heap[g]? = some (.cells cur t (0, 0))) (hn : cs.length = (Nat.min sLen dLen) * size)
    (hsrc : ∀ j v, cs[j]? = some v → w.cell? (a.add j) = some v) (hfit : o + cs.length ≤ cur.size) (h1 : ∀ v ∈ cs, v.oneCell' = true) :
    (Builtin.copy_ #[dT, sT] ty #[.slice (some ⟨g, o, none⟩) dLen dCap, .slice (some a) sLen sCap]).run P w =
      .ok (goInt (Nat.min sLen dLen)) (w.setRow g (cur.toList.take o ++ cs ++ cur.toList.drop (o + cs.length)).toArray) := by
  have hl := run_loadCells_list (P := P) w a cs hsrc
  have hst := run_storeCells_at P g o t cs 0 cur w hg (by simpa using hfit) h1
  simp [Builtin.copy_, run_underlying hu, Builtin.lenOf, Builtin.firstCells, sizeOf, typeInfo, hi, hsz, ← hn, hl, hst]

theorem run_append_zeros_grow (t tn ty e : TypeId) (i : TypeInfo) (z : Value) (k kn : IntKind) (ht : P.underlying t = some (.slice e)) (htn : P.underlying tn = some (.int kn)) (hi : P.info? e = some i) (hz : i.zero = some z)
    (b : Addr) (sLen sCap n : Nat) (olds : List Value) (hlo : olds.length = sLen * i.size) (holds : ∀ j v, olds[j]? = some v → w.cell? (b.add j) = some v)
    (hg : sCap < sLen + n) (h0 : 0 < n) (hs : 0 < i.size) (hb1 : sLen + n ≤ 1000000000) (hb2 : i.bytes ≤ 1000)  :
    (Builtin.append_ #[t, tn] ty #[.slice (some b) sLen sCap, .int k n]).run P w =
      .ok (.slice (some ⟨w.heap.size, 0, none⟩) (sLen + n) (grownCap w (sLen + n) sCap e))
        (w.drew.alloc (.cells (olds.toArray ++ Builtin.zeroCells z.cells n ++ Builtin.zeroCells z.cells (grownCap w (sLen + n) sCap e - (sLen + n))) e)) := by
  have hmul : (sLen + n) * i.bytes ≤ 1000000000 * 1000 := Nat.mul_le_mul hb1 hb2
  have hmul2 : n * i.bytes ≤ 1000000000 * 1000 := Nat.mul_le_mul (by omega) hb2
  have hfit : Builtin.nextslicecap (sLen + n) sCap * i.bytes ≤ 281474976710656 := growslice_fits hg (by omega)
  have hn : ¬ (sLen + n ≤ sCap) := by omega
  have h63' : ¬ (9223372036854775807 < ((sLen : Int) + (n : Int))) := by omega
  have h48' : ¬ (281474976710656 < Builtin.nextslicecap (sLen + n) sCap * i.bytes) := by omega
  have hw : IntKind.i64.wrap (n : Int) = n := by rw [IntKind.wrap_i64]; omega
  have h48i : ¬ (281474976710656 < (n : Int) * (i.bytes : Int)) := by
    rw [← Int.natCast_mul]
    omega
  have hneg : ¬ ((n : Int) < 0) := by omega
  have hns : ¬ (n * i.size = 0) := Nat.mul_ne_zero (by omega) (by omega)
  have hfo := run_firstCells_some (P := P) w.drew i.size sLen b sLen sCap olds hlo (by simpa using holds)
  simp [Builtin.append_, run_underlying ht, run_underlying htn, sizeOf, typeInfo, zeroValue, hi, hz, asInt, asIntOf, hw, hn, hneg, hns, h63', h48', h48i, Question.forced, hfo, newRow, grownCap]
end

section
variable {P : Program} {w : World} {ops : Array Oper} {rest : List Oper} {o : Oper} {a : Act} {Q : Exit → Act → World → Prop} {K : Act → World → Prop} {E : Prop}
theorem wp_copy_run (d s : Operand) (dT sT : TypeId) (ho : o.op = .call { callee := .builtin .copy, args := #[d, s], argTypes := #[dT, sT] })
    (vd vs : Value) (hd : a.eval d = vd) (hs : a.eval s = vs) (v : Value) (w' : World) (hr : (Builtin.copy_ #[dT, sT] o.type #[vd, vs]).run P w = .ok v w') (h : K (a.put o.dst v) w') : o.wp P a w K Q := by
  unfold Oper.wp execOp
  simp only [ho, resolve, invoke, builtin, Sem.run_bind, Sem.run_pure, Result.andThen_ok, List.map_toArray, List.map_cons, List.map_nil, hd, hs, hr]
  exact h
theorem wpList_copy_run (hgd : o.guard = none) (d s : Operand) (dT sT : TypeId) (ho : o.op = .call { callee := .builtin .copy, args := #[d, s], argTypes := #[dT, sT] })
    (vd vs : Value) (hd : a.eval d = vd) (hs : a.eval s = vs) (v : Value) (w' : World) (hr : (Builtin.copy_ #[dT, sT] o.type #[vd, vs]).run P w = .ok v w') (h : wpList P ops Q rest (a.put o.dst v) w') : wpList P ops Q (o :: rest) a w :=
  wpList_plain hgd fun _ hK => wp_copy_run d s dT sT ho vd vs hd hs v w' hr (hK _ _ h)
theorem step_copy_run (hgd : o.guard = none) (d s : Operand) (dT sT : TypeId) (ho : o.op = .call { callee := .builtin .copy, args := #[d, s], argTypes := #[dT, sT] })
    (vd vs : Value) (hd : a.eval d = vd) (hs : a.eval s = vs) (v : Value) (w' : World) (hr : (Builtin.copy_ #[dT, sT] o.type #[vd, vs]).run P w = .ok v w') (h : K (a.put o.dst v) w') :
    if Region.wanted o (yielded ops a.tmps) = true then Oper.wp P o a w K Q else E := by
  have hw : Region.wanted o (yielded ops a.tmps) = true := by simp [Region.wanted, hgd]
  rw [if_pos hw]
  exact wp_copy_run d s dT sT ho vd vs hd hs v w' hr h
end
open Go.RowKit
set_option linter.unusedVariables false
set_option linter.unusedSimpArgs false

theorem OpS.enc_one (x : OpS) : ∀ u ∈ x.enc, u.oneCell' = true := by intro u hu; simp [OpS.enc] at hu; rcases hu with rfl | rfl | rfl | rfl | rfl <;> rfl
abbrev OwOs := @Ow OpS OpS.enc 5 50
theorem Tryz.infoOp : (Tryz.prog.info? 50).map (fun i => (i.zero, i.size, i.bytes)) = some (some (.agg #[.int .u8 0, .int .i64 0, .slice none 0 0, .slice none 0 0, .slice none 0 0]), 5, 88) := by kernel_rfl
theorem Tryz.slOp : Tryz.prog.underlying 44 = some (.slice 50) := by kernel_rfl
abbrev OwCs := @Ow ClS ClS.enc 2 38
theorem Tryz.infoCl : (Tryz.prog.info? 38).map (fun i => (i.zero, i.size, i.bytes)) = some (some (.agg #[.int .i32 0, .slice none 0 0]), 2, 32) := by kernel_rfl
theorem Tryz.slCl : Tryz.prog.underlying 23 = some (.slice 38) := by kernel_rfl
section
variable {ops : Array Oper} {rest : List Oper} {o : Oper} {a : Act} {Q : Exit → Act → World → Prop} {w : World} {base : Nat} {v : Value} {K : Act → World → Prop} {E : Prop}
theorem app_os {l m : List OpS} (hgd : o.guard = none) (s x : Operand)
    (ho : o.op = .call { callee := .builtin .append, args := #[s, x], argTypes := #[44, 44] })
    (hsv : a.eval s = v) (hown : OwOs w base v l) (B : Nat) (A : Option Addr) (c n : Nat) (hx : a.eval x = .slice A n c) (hn : n = m.length) (hr : RdOs w B A m)
    (hb : l.length + m.length ≤ 1000000000000) (hbase : base ≤ w.heap.size)
    (h : ∀ v' w', OwOs w' base v' (l ++ m) → w.grownBy w' (wb v) → (v' = v ∧ w' = w ∨ wb v' = wb v ∨ wb v' = some w.heap.size) → wpList Tryz.prog ops Q rest (a.put o.dst v') w') : wpList Tryz.prog ops Q (o :: rest) a w := by
  obtain ⟨i0, hi0, hz0, hz1, hz2⟩ := info_parts Tryz.infoOp
  exact wpList_app hgd s x _ ho i0 _ 88 Tryz.slOp hi0 hz0 hz1 hz2 rfl (by omega) OpS.enc_len OpS.enc_one hsv hown B A c n hx hn hr (by simp only [maxLen]; omega) (by omega) hbase h
theorem step_os {l m : List OpS} (hgd : o.guard = none) (s x : Operand)
    (ho : o.op = .call { callee := .builtin .append, args := #[s, x], argTypes := #[44, 44] })
    (hsv : a.eval s = v) (hown : OwOs w base v l) (B : Nat) (A : Option Addr) (c n : Nat) (hx : a.eval x = .slice A n c) (hn : n = m.length) (hr : RdOs w B A m)
    (hb : l.length + m.length ≤ 1000000000000) (hbase : base ≤ w.heap.size)
    (h : ∀ v' w', OwOs w' base v' (l ++ m) → w.grownBy w' (wb v) → (v' = v ∧ w' = w ∨ wb v' = wb v ∨ wb v' = some w.heap.size) → K (a.put o.dst v') w') :
    if Region.wanted o (yielded ops a.tmps) = true then Oper.wp Tryz.prog o a w K Q else E := by
  have hw : Region.wanted o (yielded ops a.tmps) = true := by simp [Region.wanted, hgd]
  rw [if_pos hw]
  obtain ⟨i0, hi0, hz0, hz1, hz2⟩ := info_parts Tryz.infoOp
  exact wp_app s x _ ho i0 _ 88 Tryz.slOp hi0 hz0 hz1 hz2 rfl (by omega) OpS.enc_len OpS.enc_one hsv hown B A c n hx hn hr (by simp only [maxLen]; omega) (by omega) hbase h
theorem app_cs {l m : List ClS} (hgd : o.guard = none) (s x : Operand)
    (ho : o.op = .call { callee := .builtin .append, args := #[s, x], argTypes := #[23, 23] })
    (hsv : a.eval s = v) (hown : OwCs w base v l) (B : Nat) (A : Option Addr) (c n : Nat) (hx : a.eval x = .slice A n c) (hn : n = m.length) (hr : RdCs w B A m)
    (hb : l.length + m.length ≤ 2000000000000) (hbase : base ≤ w.heap.size)
    (h : ∀ v' w', OwCs w' base v' (l ++ m) → w.grownBy w' (wb v) → (v' = v ∧ w' = w ∨ wb v' = wb v ∨ wb v' = some w.heap.size) → wpList Tryz.prog ops Q rest (a.put o.dst v') w') : wpList Tryz.prog ops Q (o :: rest) a w := by
  obtain ⟨i0, hi0, hz0, hz1, hz2⟩ := info_parts Tryz.infoCl
  exact wpList_app hgd s x _ ho i0 _ 32 Tryz.slCl hi0 hz0 hz1 hz2 rfl (by omega) ClS.enc_len ClS.enc_one hsv hown B A c n hx hn hr (by simp only [maxLen]; omega) (by omega) hbase h
end
def NewOs (r : List OpS) (w : World) (e : Ending) (w' : World) : Prop :=
  ∃ A c, e = .returned (.slice A r.length c) ∧ OwOs w' w.heap.size (.slice A r.length c) r ∧ Below w.heap.size w w'
def NewI32 (r : List Int) (w : World) (e : Ending) (w' : World) : Prop :=
  ∃ A c, e = .returned (.slice A r.length c) ∧ OwI32 w' w.heap.size (.slice A r.length c) r ∧ Below w.heap.size w w'
set_option maxRecDepth 100000 in
set_option maxHeartbeats 400000 in
theorem cloneOs_any (A : Option Addr) (n c : Nat) (l : List OpS) (w : World) (hn : n = l.length) (h : RdOs w w.heap.size A l) (hb : n ≤ 100000000) :
    Calls Tryz.prog 205 #[.slice A n c] w (NewOs l w) := by
  cases A with
  | none =>
    have hl : l = [] := by
      cases l with
      | nil => rfl
      | cons a l => obtain ⟨ad, e, _⟩ := h (by simp); cases e
    subst hl
    have hn0 : n = 0 := by simpa using hn
    subst hn0
    clear hn
    have hq := fun (w : World) => Lib.run_eql_slice_nil (P := Tryz.prog) w 44 50 none 0 c 0 0 Tryz.slOp
    go_enter Tryz.func205, Tryz.ntmps205
    go_wp2_with (fail)
    go_ret
    exact ⟨none, 0, rfl, Ow.nil _ _, Below.refl _ _⟩
  | some ad =>
    have N := Lib.hid hn
    clear hn
    have hq := fun (w : World) => Lib.run_eql_slice_nil (P := Tryz.prog) w 44 50 (some ad) n c 0 0 Tryz.slOp
    go_enter Tryz.func205, Tryz.ntmps205
    go_wp2_with (first
      | (at_builtin; refine app_os (m := l) rfl (.tmp 5) (.tmp 6) rfl rfl (by exact Ow.empty _ w.heap.size _) _ _ _ _ rfl N.out (by exact h.ext (ext_alloc w _)) (by have := N.out; simp only [List.length_nil]; omega) (by simp) ?_; intro v' w' hown' hgr hv'))
    rw [List.nil_append] at hown'
    obtain ⟨A', c', rfl, _, _⟩ := hown'.form
    go_ret
    exact ⟨A', c', rfl, hown', (ext_alloc w _).grown hgr (by simp) (fun k hk => by cases hk)⟩

set_option maxRecDepth 100000 in
set_option maxHeartbeats 400000 in
theorem cloneI32_any (A : Option Addr) (n c : Nat) (l : List Int) (w : World) (hn : n = l.length) (h : RdI32 w w.heap.size A l) (hb : n ≤ 100000000) :
    Calls Tryz.prog 155 #[.slice A n c] w (NewI32 l w) := by
  cases A with
  | none =>
    have hl : l = [] := by
      cases l with
      | nil => rfl
      | cons a l => obtain ⟨ad, e, _⟩ := h (by simp); cases e
    subst hl
    have hn0 : n = 0 := by simpa using hn
    subst hn0
    clear hn
    have hq := fun (w : World) => Lib.run_eql_slice_nil (P := Tryz.prog) w 47 21 none 0 c 0 0 Tryz.slI32
    go_enter Tryz.func155, Tryz.ntmps155
    go_wp2_with (fail)
    go_ret
    exact ⟨none, 0, rfl, Ow.nil _ _, Below.refl _ _⟩
  | some ad =>
    have N := Lib.hid hn
    clear hn
    have hq := fun (w : World) => Lib.run_eql_slice_nil (P := Tryz.prog) w 47 21 (some ad) n c 0 0 Tryz.slI32
    go_enter Tryz.func155, Tryz.ntmps155
    go_wp2_with (first
      | (at_builtin; refine app_i32 (m := l) rfl (.tmp 5) (.tmp 6) rfl rfl (by exact Ow.empty _ w.heap.size _) _ _ _ _ rfl N.out (by exact h.ext (ext_alloc w _)) (by have := N.out; simp only [List.length_nil]; omega) (by simp) ?_; intro v' w' hown' hgr hv'))
    rw [List.nil_append] at hown'
    obtain ⟨A', c', rfl, _, _⟩ := hown'.form
    go_ret
    exact ⟨A', c', rfl, hown', (ext_alloc w _).grown hgr (by simp) (fun k hk => by cases hk)⟩

def NewCs (r : List ClS) (w : World) (e : Ending) (w' : World) : Prop :=
  ∃ A c, e = .returned (.slice A r.length c) ∧ OwCs w' w.heap.size (.slice A r.length c) r ∧ Below w.heap.size w w'
set_option maxRecDepth 100000 in
set_option maxHeartbeats 400000 in
theorem cloneCs_any (A : Option Addr) (n c : Nat) (l : List ClS) (w : World) (hn : n = l.length) (h : RdCs w w.heap.size A l) (hb : n ≤ 100000000) :
    Calls Tryz.prog 142 #[.slice A n c] w (NewCs l w) := by
  cases A with
  | none =>
    have hl : l = [] := by
      cases l with
      | nil => rfl
      | cons a l => obtain ⟨ad, e, _⟩ := h (by simp); cases e
    subst hl
    have hn0 : n = 0 := by simpa using hn
    subst hn0
    clear hn
    have hq := fun (w : World) => Lib.run_eql_slice_nil (P := Tryz.prog) w 23 38 none 0 c 0 0 Tryz.slCl
    go_enter Tryz.func142, Tryz.ntmps142
    go_wp2_with (fail)
    go_ret
    exact ⟨none, 0, rfl, Ow.nil _ _, Below.refl _ _⟩
  | some ad =>
    have N := Lib.hid hn
    clear hn
    have hq := fun (w : World) => Lib.run_eql_slice_nil (P := Tryz.prog) w 23 38 (some ad) n c 0 0 Tryz.slCl
    go_enter Tryz.func142, Tryz.ntmps142
    go_wp2_with (first
      | (at_builtin; refine app_cs (m := l) rfl (.tmp 5) (.tmp 6) rfl rfl (by exact Ow.empty _ w.heap.size _) _ _ _ _ rfl N.out (by exact h.ext (ext_alloc w _)) (by have := N.out; simp only [List.length_nil]; omega) (by simp) ?_; intro v' w' hown' hgr hv'))
    rw [List.nil_append] at hown'
    obtain ⟨A', c', rfl, _, _⟩ := hown'.form
    go_ret
    exact ⟨A', c', rfl, hown', (ext_alloc w _).grown hgr (by simp) (fun k hk => by cases hk)⟩

open Go.RowKit
set_option linter.unusedVariables false
set_option linter.unusedSimpArgs false

theorem w64_in (n : Int) (h : -9223372036854775808 ≤ n ∧ n ≤ 9223372036854775807) : wrap64 n = n := by rw [← IntWalk.i64_left, IntWalk.i64_in _ h]
theorem Tryz.elCl : Tryz.prog.elem 23 = 38 := by kernel_rfl
theorem Tryz.szCl : (Tryz.prog.info? 38).map (·.size) = some 2 := by kernel_rfl
theorem size_cl (W : World) : (sizeOf 38).run Tryz.prog W = .ok 2 W := by
  cases h : Tryz.prog.info? 38 with
  | none => have := Tryz.szCl; rw [h] at this; cases this
  | some i => have := Tryz.szCl; rw [h] at this; simp at this; simp [sizeOf, typeInfo, h, this]
theorem sl_one {A A8 : Option Addr} {n c i c8 : Nat} (hA8 : advS A c i 2 = A8) (hc8 : c - i = c8) (h : i + 1 ≤ c) (W : World) : (Instr.slice 23 (.slice A n c) (some (.int .i64 (i : Int))) (some (.int .i64 ((i : Int) + 1))) none).run Tryz.prog W = .ok (.slice A8 1 c8) W := by
  have h1 := sl_both (P := Tryz.prog) (n := n) (n' := 1) (y := (i : Int)) (z := (i : Int) + 1) (k := i) (l := i + 1) Tryz.slCl Tryz.elCl size_cl rfl (by omega) hA8 (by omega) hc8 (by omega) h W
  exact h1
theorem RdCl.take {w : World} {B : Nat} {A : Option Addr} {l : List ClS} (h : RdCl w B A l) (k : Nat) : RdCl w B A (l.take k) := ⟨h.1.take k, fun x hx => h.2 x (List.mem_of_mem_take hx)⟩
theorem RdCl.from {w : World} {B k c : Nat} {A A' : Option Addr} {l : List ClS} (h : RdCl w B A l) (hA : advS A c k 2 = A') (hk : k ≤ l.length) (hc : l.length ≤ c) : RdCl w B A' (l.drop k) := ⟨hA ▸ h.1.advS hk hc, fun x hx => h.2 x (List.mem_of_mem_drop hx)⟩
theorem clsOf_take (l : List ClS) (k : Nat) : clsOf (l.take k) = (clsOf l).take k := by unfold clsOf; rw [List.map_take]
theorem clsOf_drop (l : List ClS) (k : Nat) : clsOf (l.drop k) = (clsOf l).drop k := by unfold clsOf; rw [List.map_drop]
theorem clsOf_len (l : List ClS) : (clsOf l).length = l.length := by unfold clsOf; simp
theorem clsOf_at {l : List ClS} {i : Nat} {x : ClS} (h : l[i]? = some x) : (clsOf l)[i]? = some x.c := by unfold clsOf; rw [List.getElem?_map, h]; rfl

structure Grow (w : World) (F : Nat → Prop) (w' : World) (F' : Nat → Prop) : Prop where
  os : w'.os = w.os
  tape : w'.tape = w.tape
  output : w'.output = w.output
  size : w.heap.size ≤ w'.heap.size
  block : ∀ j, j < w.heap.size → ¬ F j → w'.heap[j]? = w.heap[j]?
  foot : ∀ k, F' k → F k ∨ w.heap.size ≤ k
theorem Grow.refl (w : World) (F : Nat → Prop) : Grow w F w F := ⟨rfl, rfl, rfl, Nat.le_refl _, fun _ _ _ => rfl, fun _ h => .inl h⟩
theorem Grow.trans {a b c : World} {F G H : Nat → Prop} (h : Grow a F b G) (h' : Grow b G c H) : Grow a F c H :=
  ⟨h'.os.trans h.os, h'.tape.trans h.tape, h'.output.trans h.output, Nat.le_trans h.size h'.size,
    fun j hj hn => (h'.block j (Nat.lt_of_lt_of_le hj h.size) (fun hg => by rcases h.foot j hg with h1 | h1; exact hn h1; omega)).trans (h.block j hj hn),
    fun k hk => by
      rcases h'.foot k hk with h1 | h1
      · exact h.foot k h1
      · have := h.size; exact .inr (by omega)⟩
theorem Grow.of {w w' : World} {F : Nat → Prop} (y : Below w.heap.size w w') : Grow w F w' F := ⟨y.os, y.tape, y.output, y.size, fun j hj _ => y.block j hj, fun _ h => .inl h⟩
theorem Grow.less {w w' : World} {F G H : Nat → Prop} (h : Grow w F w' G) (hs : ∀ k, H k → G k ∨ w.heap.size ≤ k) : Grow w F w' H :=
  ⟨h.os, h.tape, h.output, h.size, h.block, fun k hk => by rcases hs k hk with h1 | h1; exact h.foot k h1; exact .inr h1⟩
theorem Grow.below {w w' : World} {F G : Nat → Prop} {B : Nat} (h : Grow w F w' G) (hF : ∀ k, F k → B ≤ k) (hB : B ≤ w.heap.size) : Below B w w' :=
  ⟨h.os, h.tape, h.output, h.size, fun j hj => h.block j (by omega) (fun hf => by have := hF j hf; omega)⟩
theorem Grow.low {w w' : World} {F G : Nat → Prop} {B : Nat} (h : Grow w F w' G) (hF : ∀ k, F k → B ≤ k) (hB : B ≤ w.heap.size) : ∀ k, G k → B ≤ k := fun k hk => by
  rcases h.foot k hk with h1 | h1
  · exact hF k h1
  · omega
theorem Grow.out {w w' : World} {F G : Nat → Prop} (h : Grow w F w' G) {k : Nat} (hk : k < w.heap.size) (hn : ¬ F k) : ¬ G k := fun hg => by
  rcases h.foot k hg with h1 | h1
  · exact hn h1
  · omega
def OffF (F : Nat → Prop) (A : Option Addr) (n : Nat) : Prop := ∀ ad, A = some ad → 0 < n → ¬ F ad.block
section
variable {α : Type} {enc : α → List Value} {size : Nat} {e : TypeId} {w w' : World} {F G : Nat → Prop} {A : Option Addr} {l : List α} {v : Value} {base : Nat}
theorem Rd.grow (h : Rd enc size w w.heap.size A l) (g : Grow w F w' G) (hn : OffF F A l.length) : Rd enc size w' w'.heap.size A l := fun hl => by
  obtain ⟨ad, e, hb, hc⟩ := h hl
  have hne := hn ad e hl
  exact ⟨ad, e, Nat.lt_of_lt_of_le hb g.size, fun i hi => (hc i hi).keep fun q hq => by
    have hqb : q.block = ad.block := by rw [hq, add_block]
    simp only [World.cell?]
    rw [hqb, g.block ad.block hb hne]⟩
theorem OffF.grow (h : OffF F A l.length) (hr : Rd enc size w w.heap.size A l) (g : Grow w F w' G) : OffF G A l.length := fun ad e hl => by
  obtain ⟨ad', e', hb, _⟩ := hr hl
  rw [e] at e'; injection e' with e'; subst e'
  exact g.out hb (h ad e hl)
theorem OffF.zero : OffF F A 0 := fun _ _ h => absurd h (Nat.lt_irrefl _)
theorem OffF.less {H : Nat → Prop} {n : Nat} (h : OffF F A n) (hs : ∀ k, H k → F k) : OffF H A n := fun ad e hl hk => h ad e hl (hs _ hk)
theorem Ow.grow (h : Ow enc size e w base v l) (g : Grow w F w' G) (hn : ∀ k, wb v = some k → ¬ F k) : Ow enc size e w' base v l :=
  h.keep fun k hk => g.block k (h.wb_lt k hk).2 (hn k hk)
theorem offF_low {B : Nat} {n : Nat} (hF : ∀ k, F k → B ≤ k) (h : ∀ ad, A = some ad → 0 < n → ad.block < B) : OffF F A n := fun ad e hl hk => by
  have := hF _ hk; have := h ad e hl; omega
theorem Rd.offF {B : Nat} (h : Rd enc size w B A l) (hF : ∀ k, F k → B ≤ k) : OffF F A l.length := offF_low hF fun ad e hl => by
  obtain ⟨ad', e', hb, _⟩ := h hl
  rw [e] at e'; injection e' with e'; subst e'; exact hb
theorem Ow.offF {n c : Nat} (hs : ∀ a, (enc a).length = size) (h : Ow enc size e w base (.slice A n c) l) (hn : n = l.length) (hF : ∀ k, wb (.slice A n c) = some k → ¬ F k) : OffF F A n := fun ad ea hl hk => by
  subst ea
  have hc := h.form
  obtain ⟨A', c', hv, h1, _⟩ := hc
  injection hv with _ _ hcc
  subst hcc
  cases c with
  | zero => omega
  | succ c => exact hF _ rfl hk
end
theorem heap_setCell_self {w : World} {b j : Nat} {cs : Array Value} {t : TypeId} (h : w.heap[b]? = some (.cells cs t (0, 0))) (u : Value) : (w.setCell ⟨b, j, none⟩ u).heap[b]? = some (.cells (cs.setIfInBounds j u) t (0, 0)) := by
  have hb := blk_lt h
  have he : w.heap[b] = .cells cs t (0, 0) := by
    have := h
    rw [Array.getElem?_eq_getElem hb] at this
    injection this
  unfold World.setCell
  rw [Array.getElem?_eq_getElem (by simpa using hb), Array.getElem_modify]
  simp [he]
open Go.RowKit
set_option linter.unusedVariables false
set_option linter.unusedSimpArgs false

section
variable {α : Type} {enc : α → List Value} {size : Nat} {e : TypeId} {w : World} {base : Nat} {l : List α}
theorem flat_set (hs : ∀ a, (enc a).length = size) : ∀ (l : List α) (i j : Nat) (u : Value) (a' : α) (h : i < l.length), j < size → enc a' = (enc l[i]).set j u → (l.set i a').flatMap enc = (l.flatMap enc).set (i * size + j) u
  | [], i, j, u, a', h, _, _ => absurd h (by simp)
  | a :: l, 0, j, u, a', _, hj, he => by
    simp only [List.set_cons_zero, List.flatMap_cons, Nat.zero_mul, Nat.zero_add]
    rw [he, List.set_append_left _ _ (by rw [hs]; exact hj)]
    rfl
  | a :: l, i + 1, j, u, a', h, hj, he => by
    have ih := flat_set hs l i j u a' (by simpa using h) hj (by simpa using he)
    simp only [List.set_cons_succ, List.flatMap_cons]
    rw [ih, List.set_append_right _ _ (by rw [hs, Nat.add_mul]; omega), hs]
    congr 2
    rw [Nat.add_mul]; omega
theorem Ow.setEl (hs : ∀ a, (enc a).length = size) {g n c i j : Nat} {u : Value} {a' : α} (h : Ow enc size e w base (.slice (some ⟨g, 0, none⟩) n c) l) (hi : i < l.length) (hj : j < size)
    (he : enc a' = (enc l[i]).set j u) : Ow enc size e (w.setCell ⟨g, i * size + j, none⟩ u) base (.slice (some ⟨g, 0, none⟩) n c) (l.set i a') := by
  obtain ⟨g', cur, hA, hn, hbg, hg, hlc, hcm, hcur, htake⟩ := h.row (by omega)
  injection hA with hA
  injection hA with hA _ _
  subst hA
  refine .inr ⟨flat_len hs _, .inr ⟨g, c, cur.setIfInBounds (i * size + j) u, by rw [List.length_set, hn], hbg, heap_setCell_self hg u, by rw [List.length_set]; exact hlc, hcm, by simpa using hcur, ?_⟩⟩
  rw [flat_set hs l i j u a' hi hj he, ← htake]
  simp only [Array.toList_setIfInBounds, List.length_set]
  rw [List.take_set]
end
open Go.RowKit
set_option linter.unusedVariables false

theorem step_fn {P : Program} {ops : Array Oper} {o : Oper} {a : Act} {w : World} {K : Act → World → Prop} {Q : Exit → Act → World → Prop} {E : Prop} {R : Ending → World → Prop}
    (hg : o.guard = none) (k : Nat) (args : List Operand) (tys : Array TypeId) (hop : o.op = Op.call { callee := .value (.func k), args := args.toArray, argTypes := tys })
    (fn : Func) (hf : P.funcs[k]? = some fn) (hn0 : decide (fn.name = "runtime.NumGoroutine") = false) (hb0 : fn.body.isSome = true)
    (vs : List Value) (hv : args.map a.eval = vs) (hc : Calls P k vs.toArray w R) (h : ∀ e w', R e w' → ∃ v, e = .returned v ∧ K (a.put o.dst v) w') :
    if Region.wanted o (yielded ops a.tmps) = true then Oper.wp P o a w K Q else E := by
  have hn : ¬ fn.name = "runtime.NumGoroutine" := of_decide_eq_false hn0
  have hb : ¬ fn.body = none := fun e => by rw [e] at hb0; cases hb0
  have hw : Region.wanted o (yielded ops a.tmps) = true := by simp [Region.wanted, hg]
  rw [if_pos hw]
  unfold Oper.wp
  have he : a.eval (.func k) = .func (.func k) #[] #[] := rfl
  simp [execOp, hop, resolve, invoke, Result.andThen, he, hv, Deferred.ofValue, callFunc, hf, hn, hb]
  unfold Oper.upon
  refine hc.mono ?_
  intro e w' hr
  obtain ⟨v, rfl, hk⟩ := h e w' hr
  exact hk
set_option linter.unusedSimpArgs false

set_option maxRecDepth 100000 in
set_option maxHeartbeats 800000 in
theorem growOs_any (n : Nat) (w : World) (hb : n ≤ 100000000000) :
    Calls Tryz.prog 207 #[.slice none 0 0, .int .i64 (n : Int)] w (NewOs [] w) := by
  by_cases h0 : n = 0
  · subst h0
    go_enter Tryz.func207, Tryz.ntmps207
    go_wp2_with (fail)
    go_ret
    exact ⟨none, 0, rfl, Ow.nil _ _, Below.refl _ _⟩
  · obtain ⟨i0, hi0, hz0, hz1, hz2⟩ := info_parts Tryz.infoOp
    have hold : (Builtin.firstCells i0.size 0 (.slice none 0 0)).run Tryz.prog w.drew = .ok #[] w.drew := run_firstCells_none w.drew i0.size 0 0 0
    have hfit := growslice_fits (need := n) (old := 0) (bytes := i0.bytes) (by omega) (by rw [hz2]; omega)
    have hrz := fun ty => Lib.run_append_grow_zeros w 44 3 ty 50 i0 _ .i64 .i64 Tryz.slOp (by kernel_rfl) hi0 hz0 none 0 0 [] hold n (by omega) (by rw [hz1]; omega) (by omega) (by omega) (by rw [hz2]; omega) (by simpa using hfit)
    have hge := grownCap_ge w n 0 50
    have hle := grownCap_le_maxLen w n 0 50 (by unfold maxLen; omega)
    have hsz : (Value.agg #[.int .u8 0, .int .i64 0, .slice none 0 0, .slice none 0 0, .slice none 0 0]).cells.size = 5 := rfl
    simp only [Nat.zero_add] at hrz
    generalize hG : grownCap w n 0 50 = G at hrz hge hle
    have hG63 : G ≤ 9223372036854775807 := by unfold maxLen at hle; omega
    have hpos : (0 : Int) < (n : Int) := by omega
    generalize hcs : (([] : List Value).toArray ++ Builtin.zeroCells (Value.agg #[.int .u8 0, .int .i64 0, .slice none 0 0, .slice none 0 0, .slice none 0 0]).cells n ++ Builtin.zeroCells (Value.agg #[.int .u8 0, .int .i64 0, .slice none 0 0, .slice none 0 0, .slice none 0 0]).cells (G - n)) = cs at hrz
    have hcsz : cs.size = G * 5 := by
      rw [← hcs]
      simp only [Array.size_append, size_zeroCells, hsz]
      simp
      omega
    have HC := Lib.hid hcsz
    have HLE := Lib.hid hle
    clear hcs hcsz hG hold hi0 hz0 hz1 hz2 hsz hle hfit
    go_enter Tryz.func207, Tryz.ntmps207
    go_wp2_with (at_builtin; refine Lib.wpList_append_run _ rfl _ _ _ _ rfl _ _ rfl rfl _ _ (hrz _) ?_)
    go_ret
    refine ⟨some ⟨w.heap.size, 0, none⟩, G, rfl, .inr ⟨rfl, .inr ⟨w.heap.size, G, cs, rfl, Nat.le_refl _, ?_, Nat.zero_le _, HLE.out, HC.out, by simp⟩⟩, (ext_drew w 1).alloc (Nat.le_refl _) _⟩
    exact heap_alloc_new w.drew _

structure RwS where
  A : Option Addr
  l : List OpS
  c : Nat
def RwS.enc (x : RwS) : List Value := [.slice x.A x.l.length x.c]
def catR (rs : List RwS) (i : Nat) : List OpS := (rs.take i).flatMap (fun x => x.l)
theorem catR_succ {rs : List RwS} {i : Nat} {x : RwS} (h : rs[i]? = some x) : catR rs (i + 1) = catR rs i ++ x.l := by
  unfold catR
  rw [List.take_add_one, h, List.flatMap_append]
  simp
theorem catR_len {rs : List RwS} (h : ∀ x ∈ rs, x.l.length ≤ 20000001) (i : Nat) : (catR rs i).length ≤ i * 20000001 := by
  induction i with
  | zero => simp [catR]
  | succ i ih =>
    cases hx : rs[i]? with
    | none =>
      have e : catR rs (i + 1) = catR rs i := by unfold catR; rw [List.take_add_one, hx]; simp
      have e2 := congrArg List.length e
      omega
    | some x =>
      have e2 := congrArg List.length (catR_succ hx)
      rw [List.length_append] at e2
      have := h x (List.mem_of_getElem? hx)
      omega
theorem catR_all (rs : List RwS) (n : Nat) (h : n = rs.length) : catR rs n = rs.flatMap (fun x => x.l) := by
  subst h; unfold catR; rw [List.take_length]

set_option maxRecDepth 100000 in
set_option maxHeartbeats 800000 in
theorem concatOs_any (A : Option Addr) (n c : Nat) (rs : List RwS) (w : World) (hn : n = rs.length) (h : Rd RwS.enc 1 w w.heap.size A rs) (hr : ∀ x ∈ rs, RdOs w w.heap.size x.A x.l) (hb : n ≤ 1000) (hs : ∀ x ∈ rs, x.l.length ≤ 20000001) :
    Calls Tryz.prog 156 #[.slice A n c] w (NewOs (rs.flatMap (fun x => x.l)) w) := by
  have N := Lib.hid hn
  have HS := Lib.hid (fun i => catR_len hs i)
  have HS1 := Lib.hid hs
  have HA := Lib.hid (catR_all rs n hn)
  clear hn hs
  go_enter Tryz.func156, Tryz.ntmps156
  go_wp2_with (fail)
  go_loopg [3, 11] n (fun g sv iv wr => ∃ m : Nat, m ≤ n ∧ g = n - m ∧ sv = .int .i64 ((catR rs m).length : Int) ∧ iv = .int .i64 (m : Int) ∧ Below w.heap.size w wr)
  case atStart => exact ⟨0, by omega, rfl, rfl, rfl, Below.refl _ _⟩
  case round =>
    obtain ⟨m, hm, hg, rfl, rfl, y⟩ := hrel
    have HG := Lib.hid hg
    clear hg
    by_cases hlt : m < n
    · have hl1 : m < rs.length := by have := N.out; omega
      obtain ⟨ad, x, rfl, had, _, hxi, hc0⟩ := (h.below y (Nat.le_refl _)).el hl1
      have hx1 := HS1.out x (List.mem_of_getElem? hxi)
      have hx2 := HS.out m
      have e := catR_succ hxi
      have E := Lib.hid (show ((catR rs (m + 1)).length : Int) = (catR rs m).length + x.l.length by rw [e, List.length_append]; omega)
      obtain ⟨xA, xl, xc⟩ := x
      have r0 : wr.cell? (ad.add m) = some (.slice xA xl.length xc) := by have := hc0 0 _ rfl; rwa [add_zero', Nat.mul_one] at this
      have hbnd : ((catR rs m).length : Int) + (xl.length : Int) ≤ 1000000000000 := by have : m * 20000001 ≤ 1000 * 20000001 := Nat.mul_le_mul_right _ (by omega); simp only at hx1; omega
      generalize (catR rs m).length = S at *
      clear hc0 e hx1 hx2
      have hw1 : wrap64 ((S : Int) + (xl.length : Int)) = (S : Int) + (xl.length : Int) := by rw [← IntWalk.i64_left, IntWalk.i64_in _ (by omega)]
      have hw2 : IntKind.i64.wrap ((m:Int) + 1) = (m : Int) + 1 := IntWalk.i64_in _ (by omega)
      have hnn : ¬ ((S : Int) + (xl.length : Int) < 0) := by omega
      go_wp2_with (fail)
      go_roundg (n - (m + 1))
      case measure => have := HG.out; omega
      case rel => exact ⟨m + 1, by omega, rfl, by rw [E.out], by go_num, y⟩
    · have hmn : m = n := by omega
      subst hmn
      have hg0 := HS.out m
      have hbnd : (catR rs m).length ≤ 100000000000 := by have : m * 20000001 ≤ 1000 * 20000001 := Nat.mul_le_mul_right _ (by omega); omega
      have HB := Lib.hid hbnd
      clear hg0 hbnd
      go_wp2_with (go_at_call 207; refine Hid.out ?_)
      refine Lib.hid ?_
      refine (growOs_any (catR rs m).length _ HB.out).mono ?_
      rintro e w1 ⟨A1, k1, rfl, o1, y1⟩
      have Y := Lib.hid (ext_trans y y1)
      have O := Lib.hid (o1.base_le y.size)
      clear y1 o1 hlt
      go_wp2_with (fail)
      go_loopg [6, 27] m (fun g v iv wr => ∃ q : Nat, q ≤ m ∧ g = m - q ∧ iv = .int .i64 (q : Int) ∧ OwOs wr w.heap.size v (catR rs q) ∧ Below w.heap.size w wr)
      case atStart => exact ⟨0, by omega, rfl, rfl, O.out, Y.out⟩
      case round =>
        obtain ⟨q, hq, hg, rfl, ho, y2⟩ := hrel
        have HG2 := Lib.hid hg
        clear hg
        obtain ⟨Aq, cq, rfl, _, _⟩ := ho.form
        by_cases hlt : q < m
        · have hl1 : q < rs.length := by have := N.out; omega
          obtain ⟨ad, x, rfl, had, _, hxi, hc0⟩ := (h.below y2 (Nat.le_refl _)).el hl1
          have hx1 := HS1.out x (List.mem_of_getElem? hxi)
          have hx2 := HS.out q
          have hrx := (hr x (List.mem_of_getElem? hxi)).ext y2
          have e := Lib.hid (catR_succ hxi)
          have HO := Lib.hid ho
          obtain ⟨xA, xl, xc⟩ := x
          have r0 : wr.cell? (ad.add q) = some (.slice xA xl.length xc) := by have := hc0 0 _ rfl; rwa [add_zero', Nat.mul_one] at this
          have hw2 : IntKind.i64.wrap ((q:Int) + 1) = (q : Int) + 1 := IntWalk.i64_in _ (by omega)
          have hbnd := Lib.hid (show (catR rs q).length + xl.length ≤ 100000000000 by have : q * 20000001 ≤ 1000 * 20000001 := Nat.mul_le_mul_right _ (by omega); simp only at hx1; omega)
          clear hc0 hx1 hx2 ho
          go_wp2_with (at_builtin; refine app_os (m := xl) rfl (.tmp 31) (.tmp 32) rfl rfl (by exact HO.out) _ xA xc xl.length rfl rfl (by exact hrx) (by have := hbnd.out; omega) (by exact y2.size) ?_; intro v' w' hown' hgr hv')
          have s1 := below_app y2 y2.size HO.out (Nat.le_refl _) hgr
          go_wp2_with (fail)
          go_roundg (m - (q + 1))
          case measure => have := HG2.out; omega
          case rel => exact ⟨q + 1, by omega, rfl, by go_num, by rw [e.out]; exact hown', s1⟩
        · have hqm : q = m := by omega
          subst hqm
          have HO := Lib.hid ho
          clear ho
          go_wp2_with (fail)
          go_ret
          rw [HA.out] at *
          exact ⟨Aq, cq, rfl, HO.out, y2⟩
end Go.Proofs.YtfnkjcodcoehcaaGreatDoor
