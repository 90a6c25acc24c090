/- Merged texts: StepsLaw, StepsKit, BuildS, Get05, LawKit, RefSet. -/
import Derived.Test.YtfnkjcodcoehcaaGreatDoorY22
import Derived.Test.YtfnkjcodcoehcaaGreatDoorY9
import Derived.Test.YtfnkjcodcoehcaaGreatDoorY20
import Derived.Test.YtfnkjcodcoehcaaGreatDoorY18
import Derived.Test.YtfnkjcodcoehcaaGreatDoorY12
import Derived.Test.YtfnkjcodcoehcaaGreatDoorY19
import Derived.Test.YtfnkjcodcoehcaaGreatDoorY6
import Derived.Test.YtfnkjcodcoehcaaGreatDoorY4
import Derived.BigQuiet
import Derived.Deep.QuietTactic
namespace Go.Proofs.YtfnkjcodcoehcaaGreatDoor
set_option linter.unusedVariables false
set_option linter.unusedSimpArgs false

theorem nls_all {d : List Cl} {i : Nat} : ∀ {k q : Nat} {c : Cl}, d[q]? = some c → c.r = 10 → i ≤ q → q < i + k → q ∈ nlsF d i k
  | 0, q, c, _, _, h1, h2 => absurd h2 (by omega)
  | k + 1, q, c, hd, hr, h1, h2 => by
    have e : nlsF d i (k + 1) = nlsF d i k ++ (match d[i + k]? with | some c => if c.r = 10 then [i + k] else [] | none => []) := rfl
    rw [e]
    by_cases hq : q < i + k
    · exact List.mem_append_left _ (nls_all hd hr h1 hq)
    · have : q = i + k := by omega
      subst this
      refine List.mem_append_right _ ?_
      rw [hd]
      simp only
      rw [if_pos hr]
      exact List.mem_singleton.2 rfl
theorem linesU_on (P : Nat → List Ch) : ∀ (l : List Nat) (k f j p : Nat), riseN f l → l[j]? = some p → f ≤ p ∧ (linesU P k f l)[p - f]? = some (.ret (P (k + j)))
  | [], k, f, j, p, _, h => by simp at h
  | q :: t, k, f, j, p, hr, h => by
    have hp := hr.1
    cases j with
    | zero =>
      simp only [List.getElem?_cons_zero, Option.some.injEq] at h
      subst h
      refine ⟨hp, ?_⟩
      rw [linesU, List.getElem?_append_right (by simp)]
      simp
    | succ j =>
      simp only [List.getElem?_cons_succ] at h
      obtain ⟨h1, h2⟩ := linesU_on P t (k + 1) (q + 1) j p hr.2 h
      refine ⟨by omega, ?_⟩
      rw [linesU, List.getElem?_append_right (by simp; omega)]
      simp only [List.length_replicate]
      rw [show p - f - (q - f) = (p - (q + 1)) + 1 by omega, List.getElem?_cons_succ, h2, show k + 1 + j = k + (j + 1) by omega]
theorem rets_get (l : List Ky) : ∀ (us : List Un) (d : List Cl), (∀ u ∈ us, ∃ q, u = .ret q) → takesU us ≤ d.length →
    ∀ (i : Nat) (c' : Cl), (app l us d)[i]? = some c' → ∃ c, d[i]? = some c ∧ c'.r = c.r ∧ ∀ q, us[i]? = some (.ret q) → c' = actC l c q
  | [], d, _, _, i, c', h => ⟨c', h, rfl, fun q hq => by simp at hq⟩
  | u :: us, [], h, ht, i, c', _ => by
    obtain ⟨q, rfl⟩ := h u (by simp)
    rw [takesU_r] at ht
    simp at ht
  | u :: us, c :: d, h, ht, i, c', hi => by
    obtain ⟨q, rfl⟩ := h u (by simp)
    rw [takesU_r] at ht
    have e : app l (.ret q :: us) (c :: d) = actC l c q :: app l us d := rfl
    rw [e] at hi
    cases i with
    | zero =>
      simp only [List.getElem?_cons_zero, Option.some.injEq] at hi ⊢
      subst hi
      exact ⟨c, rfl, rfl, fun q' hq => by simp only [Un.ret.injEq] at hq; rw [hq]⟩
    | succ i =>
      simp only [List.getElem?_cons_succ] at hi ⊢
      exact rets_get l us d (fun x hx => h x (List.mem_cons_of_mem _ hx)) (by simp at ht; omega) i c' hi
def valK (v : Int) : Option V := if v = 0 then none else some ⟨2, v, 0, ⟨#[]⟩⟩
def LinesK (key v : Int) (d : List Cl) : Prop := ∀ c ∈ d, c.r = 10 → getA c.s key = valK v
theorem keep_good {l : List Ky} {key : Int} (h : GoodK l key) : keepK l true key = true := by
  obtain ⟨k, h1, _, h3⟩ := h
  unfold keepK
  rw [h1]
  simp [h3]
theorem getA_part {l : List Ky} {key : Int} {p : List Ch} {s : List At} (hg : GoodK l key) (hp : riseC p = true) (hs : riseA s = true) : getA (applyP (partP l true p) s) key = getA (applyP p s) key := by
  have h1 := (apply_all (part_srt (l := l) (b := true) (riseC_srt.1 hp)) (riseA_srt.1 hs)).2.1 key
  have h2 := (apply_all (riseC_srt.1 hp) (riseA_srt.1 hs)).2.1 key
  rw [getA_lk, getA_lk, h1, h2, lk_part (riseC_srt.1 hp), if_pos (keep_good hg)]
theorem stepN_val {s : List At} {key v b : Int} (h : getA s key = valK v) (h0 : 0 ≤ v) (h8 : v ≤ 8) (hb : b = 1 ∨ b = -1) : stepN s key b = holdI (v + b) 0 8 := by
  unfold stepN
  rw [h]
  have hb2 : holdI b (-8) 8 = b := by rcases hb with rfl | rfl <;> decide
  rw [hb2]
  unfold valK
  by_cases hv : v = 0
  · subst hv
    rw [if_pos rfl]
    rfl
  · rw [if_neg hv]
    simp only [if_true]
    rw [holdI_id h0 h8]
theorem mayV_int (n : Int) : mayV ⟨2, n, 0, ⟨#[]⟩⟩ = true := by
  show (if (2 : Int) = 1 then _ else if (2 : Int) = 2 then beqV ⟨2, n, 0, ⟨#[]⟩⟩ (intV n) else _) = true
  rw [if_neg (by decide), if_pos rfl]
  exact beqV_eq rfl
theorem stepQ_may {l : List Ky} {key n : Int} (hg : GoodK l key) (hl : l.length ≤ 64) : mayP l (stepQ l key n) = 0 := by
  obtain ⟨k, h1, h2, h3⟩ := hg
  unfold stepQ
  split
  · refine mayP_mk (by simp) rfl (fun c hc => ?_) (fun c hc => ?_)
    · rw [List.mem_singleton.1 hc]; rfl
    · rw [List.mem_singleton.1 hc]
      unfold thereC
      show ((findK l key).isSome && (true || _)) = true
      rw [h1]; rfl
  · refine compl_may (mayP_mk (by simp) rfl (fun c hc => ?_) (fun c hc => ?_)) hl
    · rw [List.mem_singleton.1 hc]
      show (if false = true then _ else mayV ⟨2, n, 0, ⟨#[]⟩⟩) = true
      rw [if_neg (by decide)]
      exact mayV_int n
    · rw [List.mem_singleton.1 hc]
      unfold thereC fitsK
      simp only
      rw [h1]
      simp [h2, mayV_int]
theorem okV_gone (k : Int) : okV (goneK k).v ∧ (goneK k).v.s.size ≤ 100000000 := ⟨by unfold okV goneK V.zero; simp, Nat.zero_le _⟩
theorem stepQ_vs {l : List Ky} {key n : Int} (h0 : 0 ≤ n) (h8 : n ≤ 8) : okVs (stepQ l key n) := fun c hc => by
  unfold stepQ at hc
  split at hc
  · rw [List.mem_singleton.1 hc]; exact okV_gone key
  · rcases compl_mem rfl hc with h | ⟨h, _⟩
    · rw [List.mem_singleton.1 h]
      refine ⟨?_, Nat.zero_le _⟩
      unfold okV
      simp only
      omega
    · rw [h]; exact okV_gone _
theorem stepP_may {l : List Ky} {key b : Int} {s : List At} (hg : GoodK l key) (hl : l.length ≤ 64) : mayP l (stepP l s key b).1 = 0 ∧ okVs (stepP l s key b).1 ∧ (stepP l s key b).2 = 0 := by
  rw [stepP_good hg]
  refine ⟨?_, ?_, rfl⟩
  · show mayP l (if _ then [] else _) = 0
    split
    · exact mayP_nil l
    · exact stepQ_may hg hl
  · show okVs (if _ then [] else _)
    split
    · exact fun c hc => by cases hc
    · exact stepQ_vs (stepN_range _ _ _).1 (stepN_range _ _ _).2
theorem step_line {l : List Ky} {key v b : Int} {c : Cl} (hg : GoodK l key) (hl : l.length ≤ 64) (hc : okCl l c) (hr : c.r = 10) (h : getA c.s key = valK v) (h0 : 0 ≤ v) (h8 : v ≤ 8) (hb : b = 1 ∨ b = -1) :
    getA (actC l c (stepP l c.s key b).1).s key = valK (holdI (v + b) 0 8) := by
  have hs := (mayS_zero hc.2.1).2.1
  have hp := (mayP_zero (stepP_may (s := c.s) (b := b) hg hl).1).2.1
  unfold actC
  simp only
  rw [show (c.r == 10) = true by rw [hr]; rfl, getA_part hg hp hs, step_now hg, stepQ_get hs, stepN_val h h0 h8 hb]
  rfl
def stepsU (l : List Ky) (key b : Int) (S : Nat → List At) (d : List Cl) : List Un := linesU (fun k => (stepP l (S k) key b).1) 0 0 (nlsF d 0 d.length)
theorem steps_fit {l : List Ky} {key b : Int} {S : Nat → List At} {d : List Cl} (hg : GoodK l key) (hl : l.length ≤ 64) (hd : mayD l d = 0) : FitU l (stepsU l key b S d) d.length d.length := by
  obtain ⟨hb, _, t, c, hdt, _⟩ := mayD_iff.1 hd
  obtain ⟨h1, h2⟩ := linesU_takes (fun k => (stepP l (S k) key b).1) (nlsF d 0 d.length) 0 0 d.length (nls_rise d 0 _) (fun p hp => by have := (nls_mem hp).2.1; omega) (Nat.zero_le _)
  exact rets_fit (linesU_ret _ _ _) (linesU_vU (fun k => (stepP_may hg hl).1) _ _ _) (by unfold stepsU; omega) h2 (by rw [hdt]; simp) hb
theorem steps_round {l : List Ky} {key v b : Int} {S : Nat → List At} {d : List Cl} (hg : GoodK l key) (hl : l.length ≤ 64) (hd : mayD l d = 0) (hL : LinesK key v d) (h0 : 0 ≤ v) (h8 : v ≤ 8) (hb : b = 1 ∨ b = -1)
    (hS : ∀ k q, (nlsF d 0 d.length)[k]? = some q → ∃ c, d[q]? = some c ∧ S k = c.s) : LinesK key (holdI (v + b) 0 8) (app l (stepsU l key b S d) d) ∧ (app l (stepsU l key b S d) d).length = d.length := by
  have hf := steps_fit (b := b) (S := S) hg hl hd
  refine ⟨fun c' hc' hr' => ?_, (rets_at l _ d (linesU_ret _ _ _) hf.t).1⟩
  obtain ⟨i, hi⟩ := List.getElem?_of_mem hc'
  obtain ⟨c, h1, h2, h3⟩ := rets_get l _ d (linesU_ret _ _ _) hf.t i c' hi
  have hil : i < d.length := by
    rcases Nat.lt_or_ge i d.length with h | h
    · exact h
    · rw [List.getElem?_eq_none h] at h1; cases h1
  have hcr : c.r = 10 := by rw [← h2]; exact hr'
  have hm := nls_all (i := 0) (k := d.length) h1 hcr (Nat.zero_le _) (by omega)
  obtain ⟨k, hk⟩ := List.getElem?_of_mem hm
  obtain ⟨c2, e1, e2⟩ := hS k i hk
  rw [h1] at e1
  injection e1 with e1
  subst e1
  obtain ⟨_, hu⟩ := linesU_on (fun k => (stepP l (S k) key b).1) (nlsF d 0 d.length) 0 0 k i (nls_rise d 0 _) hk
  rw [Nat.sub_zero, Nat.zero_add, e2] at hu
  rw [h3 _ hu]
  have hmem := List.mem_of_getElem? h1
  exact step_line hg hl ((mayD_iff.1 hd).2.1 c hmem) hcr (hL c hmem hcr) h0 h8 hb
def bareP (s : List At) (key : Int) : List At := s.filter (fun x => !(x.key == key))
theorem bareP_may {l : List Ky} {p : List At} {c : Int} (h : mayS l p = 0) : mayS l (bareP p c) = 0 := by
  obtain ⟨h1, h2, h3, h4⟩ := mayS_zero h
  have hr : riseA (bareP p c) = true := riseA_srt.2 ((riseA_srt.1 h2).filter At.key _)
  unfold mayS
  rw [if_neg (by have := List.length_filter_le (fun x : At => !(x.key == c)) p; unfold bareP; omega), if_pos ⟨hr, List.all_eq_true.2 (fun a ha => h3 a (List.mem_filter.1 ha).1)⟩, if_pos (show (bareP p c).all (thereA l) = true from List.all_eq_true.2 (fun a ha => h4 a (List.mem_filter.1 ha).1))]
def bareC (key : Int) (c : Cl) : Cl := if c.r = 10 then ⟨c.r, bareP c.s key⟩ else c
theorem bareC_r (key : Int) (c : Cl) : (bareC key c).r = c.r := by unfold bareC; split <;> rfl
theorem bare_may {l : List Ky} {key : Int} {d : List Cl} (h : mayD l d = 0) : mayD l (d.map (bareC key)) = 0 ∧ LinesK key 0 (d.map (bareC key)) := by
  obtain ⟨h1, h2, t, c, h3, h4⟩ := mayD_iff.1 h
  refine ⟨mayD_iff.2 ⟨by rw [List.length_map]; exact h1, fun c' hc' => ?_, t.map (bareC key), bareC key c, by rw [h3, List.map_append]; rfl, by rw [bareC_r]; exact h4⟩, fun c' hc' hr => ?_⟩
  · obtain ⟨x, hx, rfl⟩ := List.mem_map.1 hc'
    obtain ⟨g1, g2, g3⟩ := h2 x hx
    unfold bareC
    split
    · refine ⟨g1, bareP_may g2, ?_⟩
      simp only
      unfold partS at g3 ⊢
      unfold bareP
      rw [List.filter_filter]
      rw [List.filter_eq_nil_iff] at g3 ⊢
      intro a ha
      have := g3 a ha
      simp only [Bool.and_eq_true, not_and]
      intro h5; exact absurd h5 this
    · exact ⟨g1, g2, g3⟩
  · obtain ⟨x, hx, rfl⟩ := List.mem_map.1 hc'
    rw [bareC_r] at hr
    unfold bareC
    rw [if_pos hr]
    refine getA_miss (fun a ha => ?_)
    have := (List.mem_filter.1 ha).2
    simpa using this
def vAt (n r : Nat) : Int := if r ≤ n then ((min r 8 : Nat) : Int) else (((min n 8) - (r - n) : Nat) : Int)
theorem vAt_zero (n : Nat) : vAt n 0 = 0 := by unfold vAt; simp
theorem vAt_range (n r : Nat) : 0 ≤ vAt n r ∧ vAt n r ≤ 8 := by unfold vAt; split <;> omega
theorem vAt_up {n r : Nat} (h : r < n) : holdI (vAt n r + 1) 0 8 = vAt n (r + 1) := by
  unfold vAt holdI
  rw [if_pos (by omega : r ≤ n), if_pos (by omega : r + 1 ≤ n)]
  split <;> (try split) <;> omega
theorem vAt_down {n r : Nat} (h : n ≤ r) : holdI (vAt n r + -1) 0 8 = vAt n (r + 1) := by
  unfold vAt holdI
  rw [if_neg (by omega : ¬ r + 1 ≤ n)]
  by_cases e : r ≤ n
  · have : r = n := by omega
    subst this
    rw [if_pos (Nat.le_refl _)]
    split <;> (try split) <;> omega
  · rw [if_neg e]
    split <;> (try split) <;> omega
def setsN (d : List Cl) (k : Nat) : List (List At) := (nlsF d 0 k).map (fun q => ((d[q]?).map (·.s)).getD [])
theorem nls_no {d : List Cl} {k : Nat} {c : Cl} (h : d[k]? = some c) (hr : ¬ c.r = 10) : nlsF d 0 (k + 1) = nlsF d 0 k := by
  show nlsF d 0 k ++ (match d[0 + k]? with | some c => if c.r = 10 then [0 + k] else [] | none => []) = _
  rw [Nat.zero_add, h]
  simp only
  rw [if_neg hr, List.append_nil]
theorem nls_yes {d : List Cl} {k : Nat} {c : Cl} (h : d[k]? = some c) (hr : c.r = 10) : nlsF d 0 (k + 1) = nlsF d 0 k ++ [k] := by
  show nlsF d 0 k ++ (match d[0 + k]? with | some c => if c.r = 10 then [0 + k] else [] | none => []) = _
  rw [Nat.zero_add, h]
  simp only
  rw [if_pos hr]
theorem sets_no {d : List Cl} {k : Nat} {c : Cl} (h : d[k]? = some c) (hr : ¬ c.r = 10) : setsN d (k + 1) = setsN d k := by unfold setsN; rw [nls_no h hr]
theorem sets_yes {d : List Cl} {k : Nat} {c : Cl} (h : d[k]? = some c) (hr : c.r = 10) : setsN d (k + 1) = setsN d k ++ [c.s] := by
  unfold setsN
  rw [nls_yes h hr, List.map_append]
  simp [h]
theorem sets_len (d : List Cl) (k : Nat) : (setsN d k).length = (nlsF d 0 k).length := by unfold setsN; rw [List.length_map]
theorem sets_at {d : List Cl} {k q m : Nat} (h : (nlsF d 0 m)[k]? = some q) : ∃ c, d[q]? = some c ∧ (setsN d m)[k]? = some c.s := by
  obtain ⟨_, _, c, hc, _⟩ := nls_mem (List.mem_of_getElem? h)
  refine ⟨c, hc, ?_⟩
  unfold setsN
  rw [List.getElem?_map, h]
  simp [hc]
def bareAt (key : Int) (d : List Cl) (k : Nat) : List Cl := (d.take k).map (bareC key) ++ d.drop k
theorem bareAt_zero (key : Int) (d : List Cl) : bareAt key d 0 = d := by simp [bareAt]
theorem bareAt_all {key : Int} {d : List Cl} {k : Nat} (h : d.length ≤ k) : bareAt key d k = d.map (bareC key) := by
  unfold bareAt
  rw [List.take_of_length_le h, List.drop_eq_nil_of_le h, List.append_nil]
theorem bareAt_get {key : Int} {d : List Cl} {k : Nat} (h : k < d.length) : (bareAt key d k)[k]? = d[k]? := by
  unfold bareAt
  rw [List.getElem?_append_right (by rw [List.length_map, List.length_take]; omega), List.length_map, List.length_take, Nat.min_eq_left (Nat.le_of_lt h), Nat.sub_self, List.getElem?_drop, Nat.add_zero]
theorem bareAt_succ {key : Int} {d : List Cl} {k : Nat} {c : Cl} (h : d[k]? = some c) : bareAt key d (k + 1) = (bareAt key d k).set k (bareC key c) := by
  have hk : k < d.length := by
    rcases Nat.lt_or_ge k d.length with h1 | h1
    · exact h1
    · rw [List.getElem?_eq_none h1] at h; cases h
  unfold bareAt
  rw [List.set_append_right _ _ (by rw [List.length_map, List.length_take]; omega), List.length_map, List.length_take, Nat.min_eq_left (Nat.le_of_lt hk), Nat.sub_self, List.take_add_one, h, List.map_append, List.append_assoc]
  congr 1
  have e : d.drop k = c :: d.drop (k + 1) := by
    rw [List.drop_eq_getElem_cons hk]
    congr 1
    rw [List.getElem?_eq_getElem hk] at h
    injection h
  rw [e]
  rfl
theorem bareAt_no {key : Int} {d : List Cl} {k : Nat} {c : Cl} (h : d[k]? = some c) (hr : ¬ c.r = 10) : bareAt key d (k + 1) = bareAt key d k := by
  have hk : k < d.length := by
    rcases Nat.lt_or_ge k d.length with h1 | h1
    · exact h1
    · rw [List.getElem?_eq_none h1] at h; cases h
  have e : bareC key c = c := by unfold bareC; rw [if_neg hr]
  rw [bareAt_succ h, e]
  apply List.ext_getElem?
  intro i
  rw [List.getElem?_set]
  split
  · rename_i hi
    subst hi
    split
    · rw [bareAt_get hk, h]
    · rename_i hl
      rw [List.getElem?_eq_none (by omega)]
  · rfl
open Go.RowKit

structure AX where
  A : Option Addr
  c : Nat
  l : List At
def AX.enc (x : AX) : List Value := [.slice x.A x.l.length x.c]
theorem AX.enc_len (a : AX) : a.enc.length = 1 := rfl
theorem AX.enc_one (a : AX) : ∀ u ∈ a.enc, u.oneCell' = true := by intro u hu; simp [AX.enc] at hu; rcases hu with rfl; rfl
abbrev OwAX := @Ow AX AX.enc 1 36
abbrev RdAX (w : World) (B : Nat) (A : Option Addr) (l : List AX) : Prop := Rd AX.enc 1 w B A l
theorem Tryz.infoAX : (Tryz.prog.info? 36).map (fun i => (i.zero, i.size, i.bytes)) = some (some (.slice none 0 0), 1, 24) := by kernel_rfl
theorem Tryz.slAX : Tryz.prog.underlying 100 = some (.slice 36) := by kernel_rfl
section
variable {ops : Array Oper} {rest : List Oper} {o : Oper} {a : Act} {Q : Exit → Act → World → Prop} {w : World} {base : Nat} {v : Value} {K : Act → World → Prop} {E : Prop}
end
section
variable {α β : Type} {enc : α → List Value} {enc2 : β → List Value} {s1 s2 : Nat} {e1 e2 : TypeId} {w w' : World} {b1 b2 : Nat} {v1 v2 : Value} {l1 : List α} {l2 : List β}
theorem Ow.home (h : Ow enc s1 e1 w b1 v1 l1) {g : Nat} (hw : wb v1 = some g) : ∃ cur, w.heap[g]? = some (.cells cur e1 (0, 0)) := by
  rcases h with ⟨rfl, A, rfl⟩ | ⟨_, ⟨rfl, _⟩ | ⟨g', cap, cur', rfl, _, hg', _⟩⟩
  · cases A <;> cases hw
  · cases hw
  · cases cap with
    | zero => cases hw
    | succ c =>
      injection hw with hw
      subst hw
      exact ⟨cur', hg'⟩
theorem Ow.apart (h : Ow enc s1 e1 w b1 v1 l1) (g : Ow enc2 s2 e2 w b2 v2 l2) (he : e1 ≠ e2) : ∀ k, wb v1 = some k → wb v2 ≠ some k := fun k h1 h2 => by
  obtain ⟨c1, e3⟩ := h.home h1
  obtain ⟨c2, e4⟩ := g.home h2
  rw [e3] at e4
  injection e4 with e4
  injection e4 with _ e4 _
  exact he e4
theorem Ow.grown (h : Ow enc s1 e1 w b1 v1 l1) (g : Ow enc2 s2 e2 w b2 v2 l2) (he : e1 ≠ e2) (hg : w.grownBy w' (wb v2)) : Ow enc s1 e1 w' b1 v1 l1 :=
  h.keep fun k hk => hg.block k (h.wb_lt k hk).2 (fun e => h.apart g he k hk e.symm)
end
structure LinesInv (B : Nat) (w : World) (v1 : Value) (M : List ClS) (v9 : Value) (ats : List Int) (v8 : Value) (S : List AX) : Prop where
  row : OwCs w B v1 M
  parts : ∀ z ∈ M, PartC w B v1 z
  ats : OwInt w B v9 ats
  sets : OwAX w B v8 S
section
variable {B : Nat} {w w' : World} {v1 v9 v8 v' : Value} {M : List ClS} {ats ats' : List Int} {S S' : List AX}
theorem LinesInv.below (h : LinesInv B w v1 M v9 ats v8 S) (y : Below w.heap.size w w') : LinesInv B w' v1 M v9 ats v8 S :=
  ⟨h.row.below y (Nat.le_refl _), fun z hz => (h.parts z hz).below y, h.ats.below y (Nat.le_refl _), h.sets.below y (Nat.le_refl _)⟩
theorem LinesInv.appI (h : LinesInv B w v1 M v9 ats v8 S) (ho : OwInt w' B v' ats') (hg : w.grownBy w' (wb v9)) : LinesInv B w' v1 M v' ats' v8 S :=
  ⟨h.row.grown h.ats (by decide) hg, fun z hz => ⟨(h.parts z hz).1.grown h.ats (by decide) hg, (h.parts z hz).2⟩, ho, h.sets.grown h.ats (by decide) hg⟩
theorem LinesInv.appS (h : LinesInv B w v1 M v9 ats v8 S) (ho : OwAX w' B v' S') (hg : w.grownBy w' (wb v8)) : LinesInv B w' v1 M v9 ats v' S' :=
  ⟨h.row.grown h.sets (by decide) hg, fun z hz => ⟨(h.parts z hz).1.grown h.sets (by decide) hg, (h.parts z hz).2⟩, h.ats.grown h.sets (by decide) hg, ho⟩
theorem LinesInv.store {A1 : Option Addr} {n c : Nat} (h : LinesInv B w (.slice A1 n c) M v9 ats v8 S) {i : Nat} {r : Int} {s s' : List At} {As A' : Option Addr} {cs c' : Nat} (hx : M[i]? = some ⟨⟨r, s⟩, As, cs⟩) (ho : OwAt w B (.slice A' s'.length c') s') :
    ∃ g, A1 = some ⟨g, 0, none⟩ ∧ B ≤ g ∧ w.frozen? ⟨g, i * 2 + 1, none⟩ = false ∧ w.cell? ⟨g, i * 2, none⟩ = some (.int .i32 r) ∧ w.cell? ⟨g, i * 2 + 1, none⟩ = some (.slice As s.length cs) ∧
      LinesInv B (w.setCell ⟨g, i * 2 + 1, none⟩ (.slice A' s'.length c')) (.slice A1 n c) (M.set i ⟨⟨r, s'⟩, A', c'⟩) v9 ats v8 S := by
  have hi : i < M.length := by
    rcases Nat.lt_or_ge i M.length with h | h
    · exact h
    · rw [List.getElem?_eq_none h] at hx; cases hx
  obtain ⟨g, cur, hA, hn, hb, hg, h1, h2, h3, h4⟩ := h.row.row (by omega)
  have hc : 0 < c := by omega
  obtain ⟨c0, rfl⟩ : ∃ c0, c = c0 + 1 := ⟨c - 1, by omega⟩
  have hel := List.getElem_of_getElem? hx
  obtain ⟨hi2, hel⟩ := hel
  have hA2 := hA
  subst hA2
  have hcell : ∀ j v, (ClS.enc ⟨⟨r, s⟩, As, cs⟩)[j]? = some v → w.cell? ⟨g, i * 2 + j, none⟩ = some v := fun j v hv => by
    have hj : j < 2 := by
      rcases Nat.lt_or_ge j 2 with h | h
      · exact h
      · rw [List.getElem?_eq_none (by rw [ClS.enc_len]; exact h)] at hv; cases hv
    have hf := flat_get ClS.enc_len M i j v hi (by rw [hel]; exact hv)
    rw [← h4, List.getElem?_take] at hf
    split at hf
    · have : cur[i * 2 + j]? = some v := by rw [← Array.getElem?_toList]; exact hf
      simp [World.cell?, hg, this]
    · cases hf
  have hpn : ∀ z ∈ M, PartC (w.setCell ⟨g, i * 2 + 1, none⟩ (.slice A' s'.length c')) B (.slice (some ⟨g, 0, none⟩) n (c0 + 1)) z := fun z hz => (h.parts z hz).set
  have hwb : wb (.slice (some ⟨g, 0, none⟩) n (c0 + 1)) = some g := rfl
  have hnew : PartC (w.setCell ⟨g, i * 2 + 1, none⟩ (.slice A' s'.length c')) B (.slice (some ⟨g, 0, none⟩) n (c0 + 1)) ⟨⟨r, s'⟩, A', c'⟩ := by
    have hap : ∀ k, wb (.slice A' s'.length c') = some k → some g ≠ some k := fun k hk => by
      have := ho.apart h.row (by decide) k hk
      exact this
    exact ⟨ho.setCell (p := ⟨g, i * 2 + 1, none⟩) (fun e => hap g e rfl) _, fun k hk => hap k hk⟩
  refine ⟨g, rfl, hb, box_thaw hg _, hcell 0 _ rfl, hcell 1 _ rfl, ?_, ?_, ?_, ?_⟩
  · exact h.row.setEl ClS.enc_len hi (by decide) (by rw [hel]; rfl)
  · intro z hz
    rcases List.mem_or_eq_of_mem_set hz with hz | rfl
    · exact hpn z hz
    · exact hnew
  · exact h.ats.other hg (by decide) _ _
  · exact h.sets.other hg (by decide) _ _
end
section
variable {B : Nat} {w w' wl w0 : World} {v1 v9 v8 v' : Value} {M : List ClS} {ats ats' : List Int} {S S' : List AX}
theorem lit_keep {α : Type} {enc : α → List Value} {size : Nat} {e : TypeId} {v : Value} {l : List α} (h : Ow enc size e wl B v l) (y : Below wl.heap.size wl w) (hg : w.grownBy w' (wb v)) {b : Nat} {o : Obj} (hw : w.heap[b]? = some o) (hb : wl.heap.size ≤ b) : w'.heap[b]? = some o :=
  (hg.block b (lt_of_some hw) (fun e => by have := (h.wb_lt b e.symm).2; omega)).trans hw
theorem lit_at {w : World} {o : Obj} {b : Nat} (h : b = w.heap.size) : (w.alloc o).heap[b]? = some o := by rw [h]; exact heap_alloc_new w o
theorem lit_eq {w : World} {o : Obj} {b b' : Nat} (h : w.heap[b]? = some o) (e : b' = b) : w.heap[b']? = some o := by rw [e]; exact h
theorem lit_int {k : Int} {b : Nat} {t : TypeId} (h : w.heap[b]? = some (.cells #[.int .i64 k] t (0, 0))) : RdInt w w.heap.size (some ⟨b, 0, none⟩) [k] := by
  intro _
  refine ⟨_, rfl, lt_of_some h, fun i hi j u hu => ?_⟩
  have hi0 : i = 0 := by simpa using hi
  subst hi0
  simp only [List.getElem_cons_zero] at hu
  have hj : j = 0 := by
    rcases j with _ | j
    · rfl
    · simp [encInt] at hu
  subst hj
  simp only [encInt, List.getElem?_cons_zero, Option.some.injEq] at hu
  subst hu
  rw [Nat.zero_mul, add_zero', add_zero']
  simp [World.cell?, h]
theorem lit_ax {z : AX} {b : Nat} {t : TypeId} (h : w.heap[b]? = some (.cells #[.slice z.A z.l.length z.c] t (0, 0))) : RdAX w w.heap.size (some ⟨b, 0, none⟩) [z] := by
  intro _
  refine ⟨_, rfl, lt_of_some h, fun i hi j u hu => ?_⟩
  have hi0 : i = 0 := by simpa using hi
  subst hi0
  simp only [List.getElem_cons_zero] at hu
  have hj : j = 0 := by
    rcases j with _ | j
    · rfl
    · simp [AX.enc] at hu
  subst hj
  simp only [AX.enc, List.getElem?_cons_zero, Option.some.injEq] at hu
  subst hu
  rw [Nat.zero_mul, add_zero', add_zero']
  simp [World.cell?, h]
def RelS (Q : List ClS) (k : Nat) (S : List AX) : Prop := ∀ z ∈ S, ∃ (i : Nat) (x : ClS), i < k ∧ Q[i]? = some x ∧ x.As = z.A ∧ x.cs = z.c ∧ x.c.s = z.l
theorem RelS.more {Q : List ClS} {k : Nat} (h : RelS Q k S) : RelS Q (k + 1) S := fun z hz => by
  obtain ⟨i, x, h1, h2⟩ := h z hz
  exact ⟨i, x, by omega, h2⟩
theorem RelS.set {Q : List ClS} {k : Nat} (h : RelS Q k S) (x : ClS) : RelS (Q.set k x) k S := fun z hz => by
  obtain ⟨i, y, h1, h2, h3⟩ := h z hz
  exact ⟨i, y, h1, by rw [List.getElem?_set_ne (by omega)]; exact h2, h3⟩
theorem RelS.snoc {Q : List ClS} {k : Nat} (h : RelS Q k S) {x : ClS} (hx : Q[k]? = some x) : RelS Q (k + 1) (S ++ [⟨x.As, x.cs, x.c.s⟩]) := fun z hz => by
  rcases List.mem_append.1 hz with hz | hz
  · exact h.more z hz
  · rw [List.mem_singleton.1 hz]
    exact ⟨k, x, by omega, hx, rfl, rfl, rfl⟩
structure LinesP (E : List Cl) (Q : List ClS) (k : Nat) (ats : List Int) (S : List AX) : Prop where
  ats : ats = (nlsF E 0 k).map (fun p : Nat => (p : Int))
  sets : S.map (·.l) = setsN E k
  rel : RelS Q k S
theorem LinesP.new (E : List Cl) (Q : List ClS) : LinesP E Q 0 [] [] := ⟨rfl, rfl, fun z hz => by cases hz⟩
theorem LinesP.no {E : List Cl} {Q : List ClS} {k : Nat} (h : LinesP E Q k ats S) {c : Cl} (hc : E[k]? = some c) (hr : ¬ c.r = 10) : LinesP E Q (k + 1) ats S :=
  ⟨by rw [nls_no hc hr]; exact h.ats, by rw [sets_no hc hr]; exact h.sets, h.rel.more⟩
theorem LinesP.yes {E : List Cl} {Q : List ClS} {k : Nat} (h : LinesP E Q k ats S) {c : Cl} (hc : E[k]? = some c) (hr : c.r = 10) {x : ClS} (hx : Q[k]? = some x) (hxc : x.c.s = c.s) : LinesP E Q (k + 1) (ats ++ [(k : Int)]) (S ++ [⟨x.As, x.cs, x.c.s⟩]) :=
  ⟨by rw [nls_yes hc hr, List.map_append, h.ats]; rfl, by rw [sets_yes hc hr, List.map_append, h.sets, hxc]; rfl, h.rel.snoc hx⟩
theorem LinesP.set {E : List Cl} {Q : List ClS} {k : Nat} (h : LinesP E Q k ats S) (x : ClS) : LinesP E (Q.set k x) k ats S := ⟨h.ats, h.sets, h.rel.set x⟩
theorem LinesP.len {E : List Cl} {Q : List ClS} {k : Nat} (h : LinesP E Q k ats S) : ats.length ≤ k ∧ S.length = ats.length := by
  have h1 := congrArg List.length h.sets
  rw [List.length_map, sets_len] at h1
  rw [h.ats, List.length_map]
  exact ⟨nls_len E 0 k, h1⟩
end
open Go.RowKit
set_option linter.unusedVariables false
set_option linter.unusedSimpArgs false

def atS (L : List AX) (k : Nat) : List At := ((L[k]?).map (·.l)).getD []
def SetsAt (w : World) (L : List AX) : Prop := ∀ z ∈ L, RdAt w w.heap.size z.A z.l ∧ z.l.length ≤ z.c ∧ z.c ≤ maxLen ∧ z.l.length ≤ 1000000 ∧ riseA z.l = true
theorem SetsAt.ext {w w' : World} {L : List AX} (h : SetsAt w L) (y : Below w.heap.size w w') : SetsAt w' L := fun z hz => ⟨(h z hz).1.ext y, (h z hz).2⟩
theorem atS_rise {w : World} {L : List AX} (h : SetsAt w L) (k : Nat) : riseA (atS L k) = true := by
  unfold atS
  cases e : L[k]? with
  | none => rfl
  | some z => exact (h z (List.mem_of_getElem? e)).2.2.2.2
theorem lt_cellS {w : World} {b j : Nat} {v : Value} (h : w.cell? ⟨b, j, none⟩ = some v) : b < w.heap.size := by
  rcases Nat.lt_or_ge b w.heap.size with h1 | h1
  · exact h1
  · simp [World.cell?, Array.getElem?_eq_none h1] at h
def NthS (L : List AX) (k : Nat) (w : World) (e : Ending) (w' : World) : Prop := ∃ A' c', e = .returned (.slice A' (atS L k).length c') ∧ RdAt w' w'.heap.size A' (atS L k) ∧ (atS L k).length ≤ c' ∧ c' ≤ maxLen ∧ (atS L k).length ≤ 1000000 ∧ w' = w
theorem nthA_any (A : Option Addr) (n c k : Nat) (L : List AX) (w : World) (hn : n = L.length) (h : RdAX w w.heap.size A L) (hs : SetsAt w L) (hb : n ≤ 1000000) (hk : k ≤ 1000000) :
    Calls Tryz.prog 146 #[.slice A n c, .int .i64 (k : Int)] w (NthS L k w) := by
  by_cases hlt : k < n
  · have hlt' : (k : Int) < (n : Int) := by omega
    obtain ⟨ad, z, rfl, _, _, hx, hc⟩ := h.el (i := k) (by omega)
    have r0 : w.cell? (ad.add (k * 1)) = some (.slice z.A z.l.length z.c) := by have := hc 0 _ rfl; rwa [add_zero'] at this
    rw [Nat.mul_one] at r0
    have ha : atS L k = z.l := by unfold atS; rw [hx]; rfl
    have HA := Lib.hid ha
    have HX := Lib.hid (hs z (List.mem_of_getElem? hx))
    have N := Lib.hid hn
    clear hx hc ha hn h hs
    go_enter Tryz.func146, Tryz.ntmps146
    go_wp2_with (fail)
    go_ret
    unfold NthS
    refine ⟨z.A, z.c, ?_, ?_⟩
    · rw [HA.out]; rfl
    · rw [HA.out]
      exact ⟨HX.out.1, HX.out.2.1, HX.out.2.2.1, HX.out.2.2.2.1, rfl⟩
  · have hlt' : ¬ (k : Int) < (n : Int) := by omega
    have ha : atS L k = [] := by unfold atS; rw [List.getElem?_eq_none (by omega)]; rfl
    have HA := Lib.hid ha
    clear ha hn h hs
    go_enter Tryz.func146, Tryz.ntmps146
    go_wp2_with (fail)
    go_ret
    unfold NthS
    refine ⟨none, 0, ?_, ?_⟩
    · rw [HA.out]; rfl
    · rw [HA.out]
      exact ⟨Rd.nil, Nat.le_refl _, Nat.zero_le _, Nat.zero_le _, rfl⟩
def StepS (l : List Ky) (L : List AX) (key b : Int) (k : Nat) (w : World) (e : Ending) (w' : World) : Prop :=
  ∃ (A : Option Addr) (c : Nat), e = .returned (.slice A (stepP l (atS L k) key b).1.length c) ∧ OwCh w' w.heap.size (.slice A (stepP l (atS L k) key b).1.length c) (stepP l (atS L k) key b).1 ∧ Below w.heap.size w w'
set_option maxRecDepth 100000 in
set_option maxHeartbeats 4000000 in
theorem stepCl_any (b0 b1 b2 b3 s : Nat) (l : List Ky) (A : Option Addr) (n c k : Nat) (L : List AX) (key b : Int) (w : World)
    (h0 : w.cell? ⟨b0, 0, none⟩ = some (.pointer (some ⟨s, 0, none⟩))) (h1 : w.cell? ⟨b1, 0, none⟩ = some (.slice A n c)) (h2 : w.cell? ⟨b2, 0, none⟩ = some (.int .i64 key)) (h3 : w.cell? ⟨b3, 0, none⟩ = some (.int .i64 b))
    (hn : n = L.length) (h : RdAX w w.heap.size A L) (hs : SetsAt w L) (hb : n ≤ 1000000) (hk : k ≤ 1000000) (hS : Sch w s l) (hl : l.length ≤ 64) :
    Calls Tryz.prog 145 #[.int .i64 (k : Int), .pointer (some ⟨b0, 0, none⟩), .pointer (some ⟨b1, 0, none⟩), .pointer (some ⟨b2, 0, none⟩), .pointer (some ⟨b3, 0, none⟩)] w (StepS l L key b k w) := by
  have N := Lib.hid hn
  have H := Lib.hid h
  have HSS := Lib.hid hs
  have HS := Lib.hid hS
  have HR := Lib.hid (atS_rise hs k)
  obtain ⟨Q, hQ⟩ : ∃ Q, (stepP l (atS L k) key b) = Q := ⟨_, rfl⟩
  have HQ := Lib.hid hQ
  unfold StepS
  rw [hQ]
  clear hn h hs hS hQ
  have lt0 := lt_cellS h0
  have lt1 := lt_cellS h1
  have lt2 := lt_cellS h2
  have lt3 := lt_cellS h3
  have opb : ∀ {W : World}, Below w.heap.size w W → W.cell? ⟨b0, 0, none⟩ = some (.pointer (some ⟨s, 0, none⟩)) ∧ W.cell? ⟨b1, 0, none⟩ = some (.slice A n c) ∧ W.cell? ⟨b2, 0, none⟩ = some (.int .i64 key) ∧ W.cell? ⟨b3, 0, none⟩ = some (.int .i64 b) :=
    fun {W} y => ⟨(y.cell lt0).trans h0, (y.cell lt1).trans h1, (y.cell lt2).trans h2, (y.cell lt3).trans h3⟩
  have Cw := opb (Below.refl w.heap.size w)
  go_enter Tryz.func145, Tryz.ntmps145
  go_wp2_with (fail)
  go_region_held3 (fun w' => w'.cell? ⟨b0, 0, none⟩ = some (.pointer (some ⟨s, 0, none⟩)) ∧ w'.cell? ⟨b1, 0, none⟩ = some (.slice A n c) ∧ w'.cell? ⟨b2, 0, none⟩ = some (.int .i64 key) ∧ w'.cell? ⟨b3, 0, none⟩ = some (.int .i64 b)) (first | exact C9 | exact opb (up_drew (Below.refl _ _)) | go_keep) (first
    | (go_at_call 146
       with_reducible refine (nthA_any A n c k L _ N.out (H.out.ext (up_drew (Below.refl _ _))) (HSS.out.ext (up_drew (Below.refl _ _))) hb hk).mono ?_
       rintro e w5 ⟨A5, c5, rfl, h5, h6, h7, h8, hw5⟩
       have YW : Hid (Below w.heap.size w w5) := Lib.hid (by rw [hw5]; exact up_drew (Below.refl _ _))
       have C9 := opb YW.out
       have R5 := Lib.hid h5
       have C5 := Lib.hid h6
       have C6 := Lib.hid h7
       have C7 := Lib.hid h8
       clear h5 h6 h7 h8 hw5)
    | (go_at_call 144
       with_reducible refine (step_any s l A5 _ c5 (atS L k) key b w5 rfl R5.out C7.out C5.out C6.out (HS.out.ext YW.out) hl).mono ?_
       rintro e w6 ⟨r, er, A6, c6, rfl, hr6, hl6, ho6, y6⟩
       have O6 : Hid (OwCh w6 w.heap.size (.slice A6 r.length c6) r) := Lib.hid (ho6.base_le YW.out.size)
       have Q6 : Hid ((r, er) = Q) := Lib.hid (by rw [← HQ.out]; exact hr6 HR.out)
       have YX : Hid (Below w.heap.size w w6) := Lib.hid (ext_trans YW.out y6)
       have C9 := opb YX.out
       clear hr6 ho6 y6))
  go_wp2_with (fail)
  go_ret
  have q1 : r = Q.1 := by rw [← Q6.out]
  subst q1
  exact ⟨A6, c6, rfl, O6.out, YX.out⟩
set_option maxRecDepth 100000 in
set_option maxHeartbeats 4000000 in
theorem stepB_any (s : Nat) (l0 : List Ky) (A A2 : Option Addr) (n c n2 c2 : Nat) (l : List Nat) (L : List AX) (key b : Int) (w : World) (hG : GoodK l0 key) (hS : Sch w s l0) (hl0 : l0.length ≤ 64)
    (hn : n = l.length) (hr : RdInt w w.heap.size A (l.map (fun p : Nat => (p : Int)))) (hb : n ≤ 100000) (hl : ∀ p ∈ l, p ≤ 2000000000000)
    (hn2 : n2 = L.length) (h2 : RdAX w w.heap.size A2 L) (hs : SetsAt w L) (hb2 : n2 ≤ 1000000) :
    Calls Tryz.prog 65 #[.pointer (some ⟨s, 0, none⟩), .slice A n c, .slice A2 n2 c2, .int .i64 key, .int .i64 b] w fun e w' =>
      ∃ A' c' x, e = .returned (.tuple #[.slice A' x.length c', .int .i64 0]) ∧ osOf x = mkU (linesU (fun k => (stepP l0 (atS L k) key b).1) 0 0 l) ∧ OpsC w' A' x.length c' x ∧ Below w.heap.size w w' := by
  obtain ⟨W1, hW1⟩ : ∃ X, w.alloc (.cells #[.pointer (some ⟨s, 0, none⟩)] 26) = X := ⟨_, rfl⟩
  obtain ⟨W2, hW2⟩ : ∃ X, W1.alloc (.cells #[.slice A2 n2 c2] 100) = X := ⟨_, rfl⟩
  obtain ⟨W3, hW3⟩ : ∃ X, W2.alloc (.cells #[.int .i64 key] 3) = X := ⟨_, rfl⟩
  obtain ⟨W4, hW4⟩ : ∃ X, W3.alloc (.cells #[.int .i64 b] 3) = X := ⟨_, rfl⟩
  have y1 : Below w.heap.size w W1 := hW1 ▸ ext_alloc w _
  have y2 : Below W1.heap.size W1 W2 := hW2 ▸ ext_alloc W1 _
  have y3 : Below W2.heap.size W2 W3 := hW3 ▸ ext_alloc W2 _
  have y4 : Below W3.heap.size W3 W4 := hW4 ▸ ext_alloc W3 _
  have s1 : W1.heap.size = w.heap.size + 1 := by rw [← hW1]; simp
  have s2 : W2.heap.size = w.heap.size + 1 + 1 := by rw [← hW2, ← s1]; simp
  have s3 : W3.heap.size = w.heap.size + 1 + 1 + 1 := by rw [← hW3, ← s2]; simp
  have s4 : W4.heap.size = w.heap.size + 1 + 1 + 1 + 1 := by rw [← hW4, ← s3]; simp
  have g1 : W1.heap[w.heap.size]? = some (.cells #[.pointer (some ⟨s, 0, none⟩)] 26 (0, 0)) := hW1 ▸ heap_alloc_new w _
  have g2 : W2.heap[w.heap.size + 1]? = some (.cells #[.slice A2 n2 c2] 100 (0, 0)) := by rw [← s1]; exact hW2 ▸ heap_alloc_new W1 _
  have g3 : W3.heap[w.heap.size + 1 + 1]? = some (.cells #[.int .i64 key] 3 (0, 0)) := by rw [← s2]; exact hW3 ▸ heap_alloc_new W2 _
  have g4 : W4.heap[w.heap.size + 1 + 1 + 1]? = some (.cells #[.int .i64 b] 3 (0, 0)) := by rw [← s3]; exact hW4 ▸ heap_alloc_new W3 _
  have y : Below w.heap.size w W4 := ext_trans (ext_trans (ext_trans y1 y2) y3) y4
  have BX := Lib.hid (show ∀ (W : World), Below W4.heap.size W4 W → W.cell? ⟨w.heap.size, 0, none⟩ = some (.pointer (some ⟨s, 0, none⟩)) ∧ W.cell? ⟨w.heap.size + 1, 0, none⟩ = some (.slice A2 n2 c2) ∧ W.cell? ⟨w.heap.size + 1 + 1, 0, none⟩ = some (.int .i64 key) ∧ W.cell? ⟨w.heap.size + 1 + 1 + 1, 0, none⟩ = some (.int .i64 b) from fun W z =>
    ⟨box_1 (((ext_trans (ext_trans (ext_trans y2 y3) y4) z).block _ (by omega)).trans g1), box_1 (((ext_trans (ext_trans y3 y4) z).block _ (by omega)).trans g2), box_1 (((ext_trans y4 z).block _ (by omega)).trans g3), box_1 ((z.block _ (by omega)).trans g4)⟩)
  have HG := Lib.hid hG
  have HS := Lib.hid (hS.ext y)
  have N := Lib.hid hn
  have HR := Lib.hid (hr.ext y)
  have HL := Lib.hid hl
  have N2 := Lib.hid hn2
  have H2 := Lib.hid (h2.ext y)
  have HSS := Lib.hid (hs.ext y)
  have Y := Lib.hid y
  obtain ⟨c0, c1, c2', c3⟩ := BX.out _ (Below.refl _ _)
  have e0 : atS [] 0 = [] := rfl
  have SG : Hid ((stepP l0 [] key b).2 = 0) := Lib.hid (stepP_may (s := []) (b := b) hG hl0).2.2
  have HW : Hid (((((w.alloc (.cells #[.pointer (some ⟨s, 0, none⟩)] 26)).alloc (.cells #[.slice A2 n2 c2] 100)).alloc (.cells #[.int .i64 key] 3)).alloc (.cells #[.int .i64 b] 3)) = W4) := Lib.hid (by rw [hW1, hW2, hW3, hW4])
  clear hG hS hn hr hl hn2 h2 hs y y1 y2 y3 y4 g1 g2 g3 g4 s1 s2 s3 s4 hW1 hW2 hW3 hW4
  obtain ⟨P, hP⟩ : ∃ P : Nat → List Ch, (fun k => (stepP l0 (atS L k) key b).1) = P := ⟨_, rfl⟩
  rw [hP]
  have PM : Hid (∀ k, (stepP l0 (atS L k) key b).1 = P k) := Lib.hid (fun k => by rw [← hP])
  have P64 : Hid ((∀ k, (P k).length ≤ 64) ∧ ∀ k, okVs (P k)) := Lib.hid ⟨fun k => by rw [← PM.out k]; exact (mayP_zero (stepP_may (s := atS L k) (b := b) HG.out hl0).1).1, fun k => by rw [← PM.out k]; exact (stepP_may (s := atS L k) (b := b) HG.out hl0).2.1⟩
  clear hP
  rw [← HW.out] at c0 c1 c2' c3
  go_enter Tryz.func65, Tryz.ntmps65
  go_wp2_with (go_at_call 144; refine Hid.out ?_)
  rw [HW.out]
  clear c0 c1 c2' c3
  refine Lib.hid ?_
  refine (step_any s l0 none 0 0 [] key b W4 rfl Rd.nil (by omega) (by omega) (by omega) HS.out hl0).mono ?_
  rintro e w5 ⟨r5, er, A5, c5, rfl, hr5, hl5, ho5, y5⟩
  have er0 : er = 0 := by have h := hr5 rfl; rw [← SG.out, ← h]
  subst er0
  have HS := Lib.hid (HS.out.ext y5)
  have HR := Lib.hid (HR.out.ext y5)
  have H2 := Lib.hid (H2.out.ext y5)
  have HSS := Lib.hid (HSS.out.ext y5)
  have Y5 := Lib.hid y5
  have Y := Lib.hid (ext_trans Y.out y5)
  clear y5 ho5 hr5 hl5
  go_wp2_with (go_at_call 137; refine Hid.out ?_)
  refine Lib.hid ?_
  refine (linesS_any w.heap.size (w.heap.size + 1) (w.heap.size + 1 + 1) (w.heap.size + 1 + 1 + 1) A n c l P _ N.out HR.out hb HL.out P64.out.1 P64.out.2 (fun k w' hk yk => ?_)).mono ?_
  · obtain ⟨d0, d1, d2, d3⟩ := BX.out _ (ext_trans Y5.out yk)
    refine (stepCl_any _ _ _ _ s l0 A2 n2 c2 k L key b w' d0 d1 d2 d3 N2.out (H2.out.ext yk) (HSS.out.ext yk) hb2 (by omega) (HS.out.ext yk) hl0).mono ?_
    rintro e w'' ⟨A', c', rfl, ho, yy⟩
    rw [PM.out k] at ho ⊢
    refine ⟨A', c', rfl, ho.rd Ch.enc_len, fun ad e hlen => ?_, yy⟩
    subst e
    obtain ⟨g, cur, hA, _⟩ := ho.row hlen
    have hc4 := (cap_own ho).1
    obtain ⟨c5, rfl⟩ : ∃ c5, c' = c5 + 1 := ⟨c' - 1, by omega⟩
    injection hA with hA
    subst hA
    exact .inr (ho.wb_lt g rfl).1
  · rintro e w8 ⟨A8, c8, x8, rfl, hx, ox, yx⟩
    have HX := Lib.hid hx
    have OX := Lib.hid ox
    have YX := Lib.hid (ext_trans Y.out yx)
    clear hx ox yx
    go_wp2_with (fail)
    refine bodyPost_ret (v := .tuple #[.slice A8 x8.length c8, .int .i64 0]) (by simp [results, Tryz.results65, go_sem]) rfl ?_
    exact ⟨A8, c8, x8, rfl, HX.out, OX.out, YX.out⟩

theorem getA_drop {l : List At} {m : Nat} {x : At} {k : Int} {R : Option V} (hd : l.drop m = x :: l.drop (m + 1)) (h : getA (l.drop m) k = R) (hx : x.key ≠ k) : getA (l.drop (m + 1)) k = R := by
  rw [hd] at h
  rw [← h]
  simp [getA, hx]
theorem getA_found {l : List At} {m : Nat} {x : At} {k : Int} {R : Option V} (hd : l.drop m = x :: l.drop (m + 1)) (h : getA (l.drop m) k = R) (hx : x.key = k) : R = some x.v := by
  rw [hd] at h
  rw [← h]
  simp [getA, hx]
theorem getA_end {l : List At} {m : Nat} {k : Int} {R : Option V} (hm : l.length ≤ m) (h : getA (l.drop m) k = R) : R = none := by
  rw [List.drop_eq_nil_of_le hm] at h
  rw [← h]
  rfl
def GetOut5 (l : List At) (key : Int) (w : World) (e : Ending) (w' : World) : Prop :=
  ∃ k n f s q, e = .returned (.tuple #[.agg #[.int .u8 k, .int .i64 n, .int .u64 f, .string s], .bool q]) ∧ (getA l key).getD V.zero = ⟨k, n, f, s⟩ ∧ (getA l key).isSome = q ∧ Below w.heap.size w w'
set_option maxRecDepth 100000 in
set_option maxHeartbeats 800000 in
theorem get05_any (A : Option Addr) (n c : Nat) (l : List At) (id : Int) (w : World) (hn : n = l.length) (h : RdAt w w.heap.size A l) (hb : n ≤ 140737488355328) :
    Calls Tryz.prog 66 #[.slice A n c, .int .i64 id] w (GetOut5 l id w) := by
  have N := Lib.hid hn
  generalize hR : getA l id = R
  have HR := Lib.hid hR
  clear hn hR
  unfold GetOut5
  rw [HR.out]
  have y0 := ext_alloc w (.cells #[.int .u8 0, .int .i64 0, .int .u64 0, .string ⟨#[]⟩] 41)
  have HB := Lib.hid (heap_alloc_new w (.cells #[.int .u8 0, .int .i64 0, .int .u64 0, .string ⟨#[]⟩] 41))
  go_enter Tryz.func66, Tryz.ntmps66
  go_wp2_with (fail)
  go_loopg [6] n (fun g iv wr => ∃ m : Nat, m ≤ n ∧ g = n - m ∧ iv = .int .i64 (m : Int) ∧ wr = w.alloc (.cells #[.int .u8 0, .int .i64 0, .int .u64 0, .string ⟨#[]⟩] 41) ∧ Hid (getA (l.drop m) id = R))
  case atStart => exact ⟨0, by omega, rfl, rfl, rfl, Lib.hid (by rw [List.drop_zero]; exact HR.out)⟩
  case round =>
    obtain ⟨m, hm, hg, rfl, rfl, HI⟩ := hrel
    have HG := Lib.hid hg
    clear hg HR
    by_cases hlt : m < n
    · have hl1 : m < l.length := by have := N.out; omega
      obtain ⟨ad, x, rfl, had, hd1, _, hc0⟩ := h.el hl1
      have hc1 := hc0.keep (w' := w.alloc (.cells #[.int .u8 0, .int .i64 0, .int .u64 0, .string ⟨#[]⟩] 41)) (fun q hq => World.cell?_alloc_lt w _ q (by rw [hq, add_block]; exact had))
      have HD := Lib.hid hd1
      obtain ⟨x1, x2, x3, x4, x5⟩ := x
      obtain ⟨r0, r1, r2, r3, r4⟩ := at_cells hc1
      clear hc0 hc1 hd1
      have hw2 : IntKind.i64.wrap ((m:Int) + 1) = (m : Int) + 1 := IntWalk.i64_in _ (by omega)
      obtain ⟨b0, b1, b2, b3⟩ := box_v HB.out
      by_cases hle : x1 = id
      · subst hle
        go_wp2_with (fail)
        refine bodyPost_ret (v := .tuple #[.agg #[.int .u8 x2, .int .i64 x3, .int .u64 x4, .string x5], .bool true]) (by simp [results, Tryz.results66, go_sem]) rfl ?_
        have hr := getA_found HD.out HI.out rfl
        exact ⟨x2, x3, x4, x5, true, rfl, by rw [hr]; rfl, by rw [hr]; rfl, ext_alloc w _⟩
      · go_wp2_with (fail)
        go_roundg (n - (m + 1))
        case measure => have := HG.out; omega
        case rel => exact ⟨m + 1, by omega, rfl, by go_num, rfl, Lib.hid (getA_drop HD.out HI.out hle)⟩
    · have HE := Lib.hid (getA_end (m := m) (by have := N.out; omega) HI.out)
      go_wp2_with (fail)
      refine bodyPost_ret (v := .tuple #[.agg #[.int .u8 0, .int .i64 0, .int .u64 0, .string ⟨#[]⟩], .bool false]) (by simp [results, Tryz.results66, go_sem]) rfl ?_
      exact ⟨0, 0, 0, ⟨#[]⟩, false, rfl, by rw [HE.out]; rfl, by rw [HE.out]; rfl, ext_alloc w _⟩

def CellsIn (w : World) (p : Addr) (cs : List Value) : Prop := p.block < w.heap.size ∧ CellsAt w p cs
theorem Rd.elIn {α : Type} {enc : α → List Value} {size : Nat} {w : World} {A : Option Addr} {l : List α} (h : Rd enc size w w.heap.size A l) {i : Nat} (hi : i < l.length) :
    ∃ ad a, A = some ad ∧ l.drop i = a :: l.drop (i + 1) ∧ l[i]? = some a ∧ CellsIn w (ad.add (i * size)) (enc a) := by
  obtain ⟨ad, a, h1, h2, h3, h4, h5⟩ := h.el hi
  exact ⟨ad, a, h1, h3, h4, by rw [add_block]; exact h2, h5⟩

theorem drew_ext {w w' : World} {d : Nat} (h : w' = w.drewN d) : Below w.heap.size w w' := by subst h; exact ext_drew w d

theorem or_yes {a : Bool} {P Q : Prop} (h : a = true ∧ P ∨ a = false ∧ Q) (ha : a = true) : P := by
  rcases h with ⟨_, h⟩ | ⟨h, _⟩
  · exact h
  · rw [ha] at h; cases h
theorem or_no {a : Bool} {P Q : Prop} (h : a = true ∧ P ∨ a = false ∧ Q) (ha : a = false) : Q := by
  rcases h with ⟨h, _⟩ | ⟨_, h⟩
  · rw [ha] at h; cases h
  · exact h
theorem filter_drop {α : Type} {p : α → Bool} {s : List α} {m : Nat} {x : α} {r R : List α} (hd : s.drop m = x :: s.drop (m + 1)) (h : r ++ (s.drop m).filter p = R) :
    p x = true ∧ (r ++ [x]) ++ (s.drop (m + 1)).filter p = R ∨ p x = false ∧ r ++ (s.drop (m + 1)).filter p = R := by
  rw [hd, List.filter_cons] at h
  cases hp : p x with
  | true => rw [hp, if_pos rfl] at h; exact .inl ⟨rfl, by rw [← h]; simp⟩
  | false => rw [hp] at h; simp only [Bool.false_eq_true, if_false] at h; exact .inr ⟨rfl, h⟩

set_option maxRecDepth 100000 in
set_option maxHeartbeats 1600000 in
theorem without05_any (key : Int) (A : Option Addr) (n c : Nat) (l : List At) (w : World) (hn : n = l.length) (h : RdAt w w.heap.size A l) (hb : n ≤ 100000000) :
    Calls Tryz.prog 64 #[.slice A n c, .int .i64 key] w (NewAt (l.filter (fun a => !(a.key == key))) w) := by
  have N := Lib.hid hn
  obtain ⟨R, hR⟩ : ∃ X, l.filter (fun a => !(a.key == key)) = X := ⟨_, rfl⟩
  have HR := Lib.hid hR
  rw [hR]
  clear hn hR
  go_enter Tryz.func64, Tryz.ntmps64
  go_wp2_with (fail)
  go_loopg [5, 6] n (fun g ov iv wr => ∃ (m : Nat) (r : List At), m ≤ n ∧ g = n - m ∧ iv = .int .i64 (m : Int) ∧ OwAt wr w.heap.size ov r ∧ r.length ≤ m ∧ Below w.heap.size w wr ∧ Hid (r ++ (l.drop m).filter (fun a => !(a.key == key)) = R))
  case atStart => exact ⟨0, [], by omega, rfl, rfl, Ow.nil _ _, by simp, Below.refl _ _, Lib.hid (by simpa using HR.out)⟩
  case round =>
    obtain ⟨m, r, hm, hg, rfl, hown, hrl, y, HI⟩ := hrel
    have HG := Lib.hid hg
    clear hg HR
    by_cases hlt : m < n
    · obtain ⟨ad, x, rfl, hd1, hx1, hc0⟩ := (h.ext y).elIn (i := m) (by have := N.out; omega)
      have hst := filter_drop hd1 HI.out
      obtain ⟨x1, x2, x3, x4, x5⟩ := x
      have CX := Lib.hid hc0
      obtain ⟨r0, r1, r2, r3, r4⟩ := at_cells CX.out.2
      have HST := Lib.hid hst
      have hw2 : IntKind.i64.wrap ((m:Int) + 1) = (m : Int) + 1 := IntWalk.i64_in _ (by omega)
      clear hst hc0 hd1 hx1 HI
      by_cases hk : x1 = key
      · have hk2 : (x1 == key) = true := beq_iff_eq.2 hk
        have hk3 : (x1 != key) = false := by rw [bne, hk2]; rfl
        have HN : Hid (r ++ (l.drop (m + 1)).filter (fun a => !(a.key == key)) = R) := Lib.hid (or_no HST.out (by simp [hk]))
        clear hk
        go_wp2_with (fail)
        go_roundg (n - (m + 1))
        case measure => have := HG.out; omega
        case rel => exact ⟨m + 1, r, by omega, rfl, by go_num, by first | exact hown | exact hown.drewN _, by omega, by first | exact y | exact below_drewN y _, HN⟩
      · have hk2 : (x1 == key) = false := beq_eq_false_iff_ne.2 hk
        have hk3 : (x1 != key) = true := by rw [bne, hk2]; rfl
        have HN : Hid ((r ++ [⟨x1, ⟨x2, x3, x4, x5⟩⟩]) ++ (l.drop (m + 1)).filter (fun a => !(a.key == key)) = R) := Lib.hid (or_yes HST.out (by simp [hk2]))
        clear hk
        go_wp2_with ((at_builtin; refine app_at (m := [⟨x1, ⟨x2, x3, x4, x5⟩⟩]) rfl (.tmp 20) (.tmp 25) rfl rfl (by first | exact (hown.drewN _).alloc _ | exact hown.alloc _) _ _ 1 1 rfl rfl (by first | exact rd_one _ _ _ rfl | exact rd_one_at (enc := At.enc) (size := 5) (w3.alloc _) _ ⟨x1, ⟨x2, x3, x4, x5⟩⟩ rfl (by rw [World.size_alloc])) (by simp only [List.length_singleton]; omega) (by exact Nat.le_trans y.size (le_alloc _ _)) ?_; intro v' w' hown' hgr hv'))
        have s1 := below_app (by first | exact (below_drewN y _).alloc y.size _ | exact y.alloc y.size _) (by exact Nat.le_trans y.size (le_alloc _ _)) (by first | exact (hown.drewN _).alloc _ | exact hown.alloc _) (Nat.le_refl _) hgr
        go_roundg (n - (m + 1))
        case measure => have := HG.out; omega
        case rel => exact ⟨m + 1, r ++ [⟨x1, ⟨x2, x3, x4, x5⟩⟩], by omega, rfl, by go_num, hown', by simp; omega, s1, HN⟩
    · have hR : r = R := by
        have h := HI.out
        rw [List.drop_eq_nil_of_le (by have := N.out; omega)] at h
        simpa using h
      subst hR
      obtain ⟨A', c', rfl, _, _⟩ := hown.form
      have HOW := Lib.hid hown
      clear hown
      go_wp2_with (fail)
      go_ret
      exact ⟨A', c', rfl, HOW.out, y⟩

end Go.Proofs.YtfnkjcodcoehcaaGreatDoor
