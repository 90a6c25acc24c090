/- Merged texts: LeadLaw, LeadW. -/
import Derived.Test.YtipoeidmblnbbaaGreatDoorPk34
import Derived.Test.YtipoeidmblnbbaaGreatDoorPk24
import Derived.Test.YtipoeidmblnbbaaGreatDoorPk35
import Derived.Test.YtipoeidmblnbbaaGreatDoorPk15
/- What diff.Diff answers leads from one document to the other. Plain mathematics. -/
namespace Go.Proofs.YtipoeidmblnbbaaGreatDoor
set_option linter.unusedVariables false
set_option linter.unusedSimpArgs false

/-- the patch from one set to another one, both of a kind, is of that kind -/
theorem part_diff {l : List Ky} {nl : Bool} {a b : List At} (ha : mayS l a = 0) (hb : mayS l b = 0) (pa : partS l (!nl) a = []) (pb : partS l (!nl) b = []) : partP l nl (diffP a b) = diffP a b := by
  obtain ⟨_, a1, _, a4⟩ := mayS_zero ha
  obtain ⟨_, b1, _, b4⟩ := mayS_zero hb
  have key : ∀ (s : List At), (∀ c ∈ s, fitsK l c.key c.v = true) → partS l (!nl) s = [] → ∀ c ∈ s, keepK l nl c.key = true := by
    intro s hs hp c hc
    have h5 := keep_one' (fits_some (hs c hc))
    have h6 : keepK l (!nl) c.key = false := by
      rcases Bool.eq_false_or_eq_true (keepK l (!nl) c.key) with h7 | h7
      · have hm : c ∈ partS l (!nl) s := List.mem_filter.2 ⟨hc, h7⟩
        rw [hp] at hm; cases hm
      · exact h7
    cases nl
    · have h6 : keepK l true c.key = false := h6
      rw [h6] at h5
      cases hk : keepK l false c.key
      · rw [hk] at h5; cases h5
      · rfl
    · have h6 : keepK l false c.key = false := h6
      rw [h6] at h5; exact h5
  unfold partP
  refine List.filter_eq_self.2 fun c hc => ?_
  rcases mem_diff a1 b1 hc with ⟨x, hx, rfl⟩ | ⟨y, hy, rfl⟩
  · exact key a a4 pa x hx
  · exact key b b4 pb y hy
theorem act_diff {l : List Ky} {c e : Cl} (hc : okCl l c) (he : okCl l e) (hr : c.r = e.r) : actC l c (diffP c.s e.s) = e := by
  have p1 : partS l (!(c.r == 10)) c.s = [] := hc.2.2
  have p2 : partS l (!(c.r == 10)) e.s = [] := by rw [hr]; exact he.2.2
  unfold actC
  rw [part_diff hc.2.1 he.2.1 p1 p2, law_diff (mayS_zero hc.2.1).2.1 (mayS_zero he.2.1).2.1]
  cases e; simp only at hr; subst hr; rfl
theorem cpl_last {α : Type} [DecidableEq α] (x y : List α) : ∀ k, k ≤ cpl x y → x.take k = y.take k := fun k hk => by
  have h := cpl_take x y
  have := congrArg (fun z => List.take k z) h
  simpa [List.take_take, Nat.min_eq_left hk] using this
theorem mkDel_told {m : Mk} {us : List Un} (h : Told m us) (n : Nat) (hb : us.length + n ≤ 4611686018427387904) : Told (mkDelete m (n : Int)) (us ++ List.replicate n .del) := by
  have := h.delete (n : Int) (by omega) (by omega)
  simpa using this
theorem told_tell {m : Mk} {us : List Un} (h : Told m us) : ∀ (f : List Cl), Told (tellM m f) (us ++ f.map insU) := by
  intro f
  induction f generalizing m us with
  | nil => rw [List.map_nil, List.append_nil]; exact h
  | cons c f ih =>
    have h1 := h.insert [c.r] c.s
    have h2 := ih h1
    have e : us ++ List.map (fun r => Un.ins r c.s) [c.r] ++ f.map insU = us ++ (c :: f).map insU := by simp [insU]
    rw [e] at h2
    exact h2
theorem told_rets {m : Mk} {us : List Un} (h : Told m us) : ∀ (z : List (Cl × Cl)), us.length + z.length ≤ 4611686018427387904 → Told (retsM m z) (us ++ z.map retU) := by
  intro z
  induction z generalizing m us with
  | nil => intro _; rw [List.map_nil, List.append_nil]; exact h
  | cons x z ih =>
    intro hb
    simp only [List.length_cons] at hb
    have h1 := h.retain 1 (diffP x.1.s x.2.s) (by omega)
    have h2 := ih h1 (by simp; omega)
    have e : us ++ List.replicate (Int.toNat 1) (Un.ret (diffP x.1.s x.2.s)) ++ z.map retU = us ++ (x :: z).map retU := by simp [retU]
    rw [e] at h2
    exact h2
theorem diff_told {d e : List Cl} (bd : d.length ≤ 1000000) (be : e.length ≤ 1000000) (hd : d ≠ []) (he : e ≠ []) : Told (diffM d e) (diffU d e) := by
  obtain ⟨b1, b2⟩ := begD_le hd he
  have hd1 : d.drop (begD d e) ≠ [] := fun h => by have := congrArg List.length h; simp at this; omega
  have he1 : e.drop (begD d e) ≠ [] := fun h => by have := congrArg List.length h; simp at this; omega
  unfold diffM diffU
  have ld : (d.drop (begD d e)).length ≤ 1000000 := by rw [List.length_drop]; omega
  have le : (e.drop (begD d e)).length ≤ 1000000 := by rw [List.length_drop]; omega
  have hn : begD d e ≤ 1000000 := by omega
  generalize begD d e = n at *
  generalize d.drop n = d1 at *
  generalize e.drop n = e1 at *
  obtain ⟨k1, k2, k3⟩ := endD_le hd1 he1
  unfold diffM1 diffU1
  generalize endD d1 e1 = k at *
  have h0 := Told.new.retain (n : Int) [] (by simp; omega)
  simp only [List.nil_append, Int.toNat_natCast] at h0
  have h1 := told_tell h0 (e1.take (e1.length - k))
  have h2 := mkDel_told h1 (d1.length - k) (by simp; omega)
  have e2 : ((d1.length - k : Nat) : Int) = (d1.length : Int) - (k : Int) := by omega
  rw [e2] at h2
  have h3 := told_rets h2 ((d1.drop (d1.length - k)).zip (e1.drop (e1.length - k))) (by simp; omega)
  simpa [List.append_assoc] using h3
/-- the rows of what stands at the end have the same runes -/
theorem end_runes {d e : List Cl} (hd : d ≠ []) (he : e ≠ []) (hl : (d.getLast?).map (·.r) = (e.getLast?).map (·.r)) : (d.drop (d.length - endD d e)).map (·.r) = (e.drop (e.length - endD d e)).map (·.r) := by
  obtain ⟨k1, k2, k3⟩ := endD_le hd he
  have key : ∀ (z : List Cl) (k : Nat), k ≤ z.length → (z.drop (z.length - k)).map (·.r) = ((z.reverse.map (·.r)).take k).reverse := by
    intro z k hk
    rw [← List.map_take, List.map_reverse.symm]
    rw [List.take_reverse]
    simp
  rw [key d _ k2, key e _ k3]
  congr 1
  -- the last cells, then the common ones
  obtain ⟨t, c, rfl⟩ : ∃ t c, d = t ++ [c] := by
    rcases List.eq_nil_or_concat d with h | ⟨t, c, h⟩
    · exact absurd h hd
    · exact ⟨t, c, by rw [h, List.concat_eq_append]⟩
  obtain ⟨u, b, rfl⟩ : ∃ u b, e = u ++ [b] := by
    rcases List.eq_nil_or_concat e with h | ⟨t, c, h⟩
    · exact absurd h he
    · exact ⟨t, c, by rw [h, List.concat_eq_append]⟩
  have hcb : c.r = b.r := by simpa using hl
  have e1 : (t ++ [c]).reverse = c :: t.reverse := by simp
  have e2 : (u ++ [b]).reverse = b :: u.reverse := by simp
  unfold endD
  rw [e1, e2]
  simp only [List.drop_succ_cons, List.drop_zero, List.map_cons]
  rw [Nat.add_comm, List.take_succ_cons, List.take_succ_cons, hcb]
  congr 1
  exact cpl_take _ _
theorem app_pairs {l : List Ky} : ∀ (z : List (Cl × Cl)) , (∀ x ∈ z, okCl l x.1 ∧ okCl l x.2 ∧ x.1.r = x.2.r) → app l (z.map retU) (z.map (·.1)) = z.map (·.2)
  | [], _ => rfl
  | x :: z, h => by
    show actC l x.1 (diffP x.1.s x.2.s) :: app l (z.map retU) (z.map (·.1)) = x.2 :: z.map (·.2)
    obtain ⟨h1, h2, h3⟩ := h x (by simp)
    rw [act_diff h1 h2 h3, app_pairs z (fun y hy => h y (List.mem_cons_of_mem _ hy))]
theorem takes_pairs (z : List (Cl × Cl)) : takesU (z.map retU) = z.length ∧ makesU (z.map retU) = z.length := by
  induction z with
  | nil => exact ⟨rfl, rfl⟩
  | cons x z ih => exact ⟨by show takesU (.ret _ :: z.map retU) = _; rw [takesU_r, ih.1]; rfl, by show makesU (.ret _ :: z.map retU) = _; rw [makesU_r, ih.2]; rfl⟩
theorem takes_inss (z : List Cl) : takesU (z.map insU) = 0 ∧ makesU (z.map insU) = z.length := by
  induction z with
  | nil => exact ⟨rfl, rfl⟩
  | cons x z ih => exact ⟨by show takesU (.ins _ _ :: z.map insU) = _; rw [takesU_i, ih.1], by show makesU (.ins _ _ :: z.map insU) = _; rw [makesU_i, ih.2]; rfl⟩
theorem app_inss (l : List Ky) (z : List Cl) (us : List Un) (d : List Cl) : app l (z.map insU ++ us) d = z ++ app l us d := by
  induction z with
  | nil => rfl
  | cons x z ih => show (⟨x.r, x.s⟩ : Cl) :: app l (z.map insU ++ us) d = _; rw [ih]; rfl
theorem app_dels' (l : List Ky) (us : List Un) : ∀ (g : Nat) (d : List Cl), app l (List.replicate g .del ++ us) d = app l us (d.drop g)
  | 0, d => rfl
  | g + 1, d => by rw [List.replicate_succ]; show app l (List.replicate g .del ++ us) (d.drop 1) = _; rw [app_dels' l us g, List.drop_drop, Nat.add_comm 1]
theorem app_rets' (l : List Ky) (us : List Un) (n : Nat) (d : List Cl) (h : n ≤ d.length) : app l (List.replicate n (.ret []) ++ us) d = d.take n ++ app l us (d.drop n) := by
  induction n generalizing d with
  | zero => rfl
  | succ n ih =>
    cases d with
    | nil => simp at h
    | cons c d =>
      rw [List.replicate_succ]
      show actC l c [] :: app l (List.replicate n (.ret []) ++ us) d = _
      rw [ih d (by simp at h; omega), actC_nil]; rfl
theorem fin_pairs (n : Nat) (z : List (Cl × Cl)) : ∀ a, finU n a (z.map retU) = true := by
  induction z with
  | nil => intro a; rfl
  | cons x z ih => intro a; exact ih (a + 1)
theorem mayD_end {l : List Ky} {d : List Cl} (h : mayD l d = 0) : d ≠ [] ∧ (d.getLast?).map (·.r) = some 10 := by
  obtain ⟨_, _, t, c, rfl, h3⟩ := mayD_iff.1 h
  exact ⟨by simp, by simp [h3]⟩
/-- it leads from one to the other, and fits -/
theorem lead_law {l : List Ky} (hl : l.length ≤ 64) {d e : List Cl} {N : Nat} (hd : mayD l d = 0) (he : mayD l e = 0) (h1 : d.length ≤ N) (h2 : e.length ≤ N) (hN : N ≤ 536870912) :
    FitU l (diffU d e) d.length N ∧ app l (diffU d e) d = e := by
  obtain ⟨dn, dl⟩ := mayD_end hd
  obtain ⟨en, el⟩ := mayD_end he
  obtain ⟨_, d1, _⟩ := mayD_iff.1 hd
  obtain ⟨_, e1, _⟩ := mayD_iff.1 he
  obtain ⟨b1, b2⟩ := begD_le dn en
  have hbeg : d.take (begD d e) = e.take (begD d e) := cpl_last d e _ (Nat.min_le_left _ _)
  have dpos : 1 ≤ d.length := List.length_pos_iff.2 dn
  unfold diffU
  generalize begD d e = n at *
  have l1 : ((d.drop n).getLast?).map (·.r) = some 10 := by rw [List.getLast?_drop]; rw [if_neg (by omega)]; exact dl
  have l2 : ((e.drop n).getLast?).map (·.r) = some 10 := by rw [List.getLast?_drop]; rw [if_neg (by omega)]; exact el
  have dn1 : d.drop n ≠ [] := fun h => by have := congrArg List.length h; simp at this; omega
  have en1 : e.drop n ≠ [] := fun h => by have := congrArg List.length h; simp at this; omega
  have od : ∀ c ∈ d.drop n, okCl l c := fun c hc => d1 c (List.mem_of_mem_drop hc)
  have oe : ∀ c ∈ e.drop n, okCl l c := fun c hc => e1 c (List.mem_of_mem_drop hc)
  have hdl : (d.drop n).length = d.length - n := List.length_drop
  have hel : (e.drop n).length = e.length - n := List.length_drop
  have hsplit : d = d.take n ++ d.drop n := (List.take_append_drop n d).symm
  have hsplit2 : e = e.take n ++ e.drop n := (List.take_append_drop n e).symm
  have hR := end_runes dn1 en1 (l1.trans l2.symm)
  obtain ⟨k1, k2, k3⟩ := endD_le dn1 en1
  unfold diffU1
  generalize hda : d.drop n = da at *
  generalize hea : e.drop n = ea at *
  generalize endD da ea = k at *
  have hzl : ((da.drop (da.length - k)).zip (ea.drop (ea.length - k))).length = k := by rw [List.length_zip, List.length_drop, List.length_drop]; omega
  have hz1 : ((da.drop (da.length - k)).zip (ea.drop (ea.length - k))).map (·.1) = da.drop (da.length - k) := by rw [List.map_fst_zip]; rw [List.length_drop, List.length_drop]; omega
  have hz2 : ((da.drop (da.length - k)).zip (ea.drop (ea.length - k))).map (·.2) = ea.drop (ea.length - k) := by rw [List.map_snd_zip]; rw [List.length_drop, List.length_drop]; omega
  have hzo : ∀ x ∈ (da.drop (da.length - k)).zip (ea.drop (ea.length - k)), okCl l x.1 ∧ okCl l x.2 ∧ x.1.r = x.2.r := by
    intro x hx
    obtain ⟨i, hi, hxi⟩ := List.getElem_of_mem hx
    rw [List.getElem_zip] at hxi
    have a1 : i < (da.drop (da.length - k)).length := by rw [hzl] at hi; rw [List.length_drop]; omega
    have a2 : i < (ea.drop (ea.length - k)).length := by rw [hzl] at hi; rw [List.length_drop]; omega
    subst hxi
    refine ⟨od _ (List.mem_of_mem_drop (List.getElem_mem a1)), oe _ (List.mem_of_mem_drop (List.getElem_mem a2)), ?_⟩
    have := congrArg (fun z => z[i]?) hR
    simp only [List.getElem?_map, List.getElem?_eq_getElem a1, List.getElem?_eq_getElem a2, Option.map_some, Option.some.injEq] at this
    exact this
  generalize (da.drop (da.length - k)).zip (ea.drop (ea.length - k)) = z at *
  have happ : app l (List.replicate n (.ret []) ++ ((ea.take (ea.length - k)).map insU ++ List.replicate (da.length - k) .del ++ z.map retU)) d = e := by
    rw [app_rets' l _ n d (by omega), List.append_assoc, app_inss, app_dels', hda, ← hz1, app_pairs z hzo, hz2, List.take_append_drop, hbeg, ← hea, List.take_append_drop]
  have ht : takesU (List.replicate n (.ret []) ++ ((ea.take (ea.length - k)).map insU ++ List.replicate (da.length - k) .del ++ z.map retU)) = d.length := by
    rw [takesU_append, takesU_append, takesU_append, takesU_ret, (takes_inss _).1, takesU_del, (takes_pairs z).1]; omega
  have hm : makesU (List.replicate n (.ret []) ++ ((ea.take (ea.length - k)).map insU ++ List.replicate (da.length - k) .del ++ z.map retU)) = e.length := by
    rw [makesU_append, makesU_append, makesU_append, makesU_ret, (takes_inss _).2, makesU_del, (takes_pairs z).2, List.length_take]; omega
  refine ⟨⟨fun u hu => ?_, by omega, dpos, h1, ?_, by omega, by omega, by omega⟩, happ⟩
  · rcases List.mem_append.1 hu with hu | hu
    · rw [(List.mem_replicate.1 hu).2]; show mayP l [] = 0; simp [mayP, riseC, rise]
    rcases List.mem_append.1 hu with hu | hu
    · rcases List.mem_append.1 hu with hu | hu
      · obtain ⟨c, hc, rfl⟩ := List.mem_map.1 hu
        exact oe c (List.mem_of_mem_take hc)
      · rw [(List.mem_replicate.1 hu).2]; trivial
    · obtain ⟨x, hx, rfl⟩ := List.mem_map.1 hu
      obtain ⟨o1, o2, _⟩ := hzo x hx
      exact stay_diff hl o1.2.1 o2.2.1
  · rw [finU_append, finU_reps, takesU_ret, Bool.true_and, finU_append, finU_append, fin_pairs, Bool.and_true, Nat.zero_add]
    have hi : finU d.length n ((ea.take (ea.length - k)).map insU) = true := by
      have : ∀ (q : List Cl), finU d.length n (q.map insU) = true := by
        intro q
        induction q with
        | nil => rfl
        | cons x q ih => show (decide (n ≠ d.length) && finU d.length n (q.map insU)) = true; rw [ih, Bool.and_true]; exact decide_eq_true (by omega)
      exact this _
    rw [hi, Bool.true_and, (takes_inss _).1, Nat.add_zero]
    cases hg : da.length - k with
    | zero => rfl
    | succ g => rw [finU_dels d.length g n (by omega)]; exact decide_eq_true (by omega)
/-- of two that are one it is empty, and of two that are not it is not -/
theorem lead_empty {l : List Ky} (hl : l.length ≤ 64) {d e : List Cl} (hd : mayD l d = 0) (he : mayD l e = 0) (bd : d.length ≤ 1000000) (be : e.length ≤ 1000000) : d = e ↔ mkU (diffU d e) = [] := by
  rw [mkU_empty]
  constructor
  · intro h
    subst h
    obtain ⟨dn, dl⟩ := mayD_end hd
    have hs : ∀ (z : List Cl), cpl z z = z.length := by
      intro z
      induction z with
      | nil => rfl
      | cons a z ih => simp [cpl, ih]
    obtain ⟨_, d1, t, c, rfl, _⟩ := mayD_iff.1 hd
    have hb : begD (t ++ [c]) (t ++ [c]) = t.length := by unfold begD; rw [hs]; simp
    have he1 : endD [c] [c] = 1 := rfl
    have hdrop : (t ++ [c]).drop t.length = [c] := by simp
    unfold diffU diffU1
    rw [hb, hdrop, he1]
    have hsame : diffP c.s c.s = [] := law_same (mayS_zero (d1 c (by simp)).2.1).2.1
    show nf (List.replicate t.length (.ret []) ++ ([] ++ [] ++ [Un.ret (diffP c.s c.s)])) = []
    rw [hsame]
    have e0 : List.replicate t.length (Un.ret []) ++ ([] ++ [] ++ [Un.ret []]) = List.replicate (t.length + 1) (.ret []) := by rw [List.replicate_succ']; rfl
    rw [e0]
    have hc : ∀ k, canon (List.replicate k (.ret [])) = List.replicate k (.ret []) := by
      intro k
      induction k with
      | zero => rfl
      | succ k ih => rw [List.replicate_succ', canon_snoc_ret, ih]
    unfold nf
    rw [hc]
    exact trim_nil_iff.2 (fun u hu => (List.mem_replicate.1 hu).2)
  · intro h
    have h1 := (lead_law hl hd he (Nat.le_max_left d.length e.length) (Nat.le_max_right d.length e.length) (by omega)).2
    rw [← app_nf, h] at h1
    exact h1
end Go.Proofs.YtipoeidmblnbbaaGreatDoor
/- diff.Diff at two documents that may be: what it answers is at hand, with its rooms. -/
namespace Go.Proofs.YtipoeidmblnbbaaGreatDoor
open Go.RowKit
set_option linter.unusedVariables false
set_option linter.unusedSimpArgs false

theorem diff_sets {l : List Ky} {d : List Cl} (h : mayD l d = 0) : ∀ c ∈ d, c.s.length ≤ 64 ∧ riseA c.s = true := fun c hc => by
  obtain ⟨a, b, _⟩ := mayS_zero ((mayD_iff.1 h).2.1 c hc).2.1
  exact ⟨a, b⟩
theorem zip_mem {d e : List Cl} {x : Cl × Cl} (hx : x ∈ d.zip e) : x.1 ∈ d ∧ x.2 ∈ e := by
  obtain ⟨a, b⟩ := x
  exact List.of_mem_zip hx
theorem diffM_B {l : List Ky} {d e : List Cl} (hd : mayD l d = 0) (he : mayD l e = 0) : MkB (diffM d e) (2 + e.length + 2 * d.length) 128 := by
  unfold diffM diffM1
  generalize begD d e = n
  have sd : ∀ c ∈ d.drop n, c.s.length ≤ 64 ∧ riseA c.s = true := fun c hc => diff_sets hd c (List.mem_of_mem_drop hc)
  have se : ∀ c ∈ e.drop n, c.s.length ≤ 64 ∧ riseA c.s = true := fun c hc => diff_sets he c (List.mem_of_mem_drop hc)
  have ld : (d.drop n).length ≤ d.length := by rw [List.length_drop]; omega
  have le : (e.drop n).length ≤ e.length := by rw [List.length_drop]; omega
  generalize d.drop n = d1 at *
  generalize e.drop n = e1 at *
  generalize endD d1 e1 = k
  have h0 := (MkB.new 128).retain (n : Int) (p := []) (by simp)
  have h1 := h0.tellD (e1.take (e1.length - k)) (fun c hc => by have := (se c (List.mem_of_mem_take hc)).1; omega)
  have h2 := h1.delete ((d1.length : Int) - k)
  have h3 := retsM_B h2 ((d1.drop (d1.length - k)).zip (e1.drop (e1.length - k))) (fun x hx => by
    obtain ⟨m1, m2⟩ := zip_mem hx
    obtain ⟨a1, a2⟩ := sd _ (List.mem_of_mem_drop m1)
    obtain ⟨b1, b2⟩ := se _ (List.mem_of_mem_drop m2)
    have := diff_len a2 b2
    omega)
  refine h3.mono ?_ (Nat.le_refl _)
  rw [List.length_zip, List.length_take, List.length_drop, List.length_drop]
  omega
theorem diff_okUn {l : List Ky} {d e : List Cl} (hd : mayD l d = 0) (he : mayD l e = 0) (ve : ∀ c ∈ e, okVr c.s) : ∀ u ∈ diffU d e, okUn u := by
  unfold diffU diffU1
  generalize begD d e = n
  have sd : ∀ c ∈ d.drop n, riseA c.s = true := fun c hc => (diff_sets hd c (List.mem_of_mem_drop hc)).2
  have se : ∀ c ∈ e.drop n, riseA c.s = true ∧ okVr c.s ∧ okVa c.s := fun c hc => ⟨(diff_sets he c (List.mem_of_mem_drop hc)).2, ve c (List.mem_of_mem_drop hc), mayS_va ((mayD_iff.1 he).2.1 c (List.mem_of_mem_drop hc)).2.1 (ve c (List.mem_of_mem_drop hc))⟩
  generalize d.drop n = d1 at *
  generalize e.drop n = e1 at *
  generalize endD d1 e1 = k
  intro u hu
  rcases List.mem_append.1 hu with hu | hu
  · rw [(List.mem_replicate.1 hu).2]; intro c hc; cases hc
  rcases List.mem_append.1 hu with hu | hu
  · rcases List.mem_append.1 hu with hu | hu
    · obtain ⟨c, hc, rfl⟩ := List.mem_map.1 hu
      exact (se c (List.mem_of_mem_take hc)).2.1
    · rw [(List.mem_replicate.1 hu).2]; trivial
  · obtain ⟨x, hx, rfl⟩ := List.mem_map.1 hu
    obtain ⟨m1, m2⟩ := zip_mem hx
    exact vs_diff (sd _ (List.mem_of_mem_drop m1)) (se _ (List.mem_of_mem_drop m2)).1 (se _ (List.mem_of_mem_drop m2)).2.2
theorem diffU_len {d e : List Cl} (hd : d ≠ []) (he : e ≠ []) : (diffU d e).length ≤ 2 * d.length + e.length := by
  obtain ⟨b1, b2⟩ := begD_le hd he
  unfold diffU diffU1
  simp only [List.length_append, List.length_replicate, List.length_map, List.length_zip, List.length_take, List.length_drop]
  omega
theorem diffDoc {s : Nat} {l : List Ky} {A1 A2 : Option Addr} {n1 n2 c1 c2 : Nat} {d e : List ClS} {w : World} (D1 : DocAt w A1 n1 c1 d) (D2 : DocAt w A2 n2 c2 e) (hS : Sch w s l)
    (hT : Lib.Utf8Tabs 1 2 w) (m1 : mayD l (clsOf d) = 0) (m2 : mayD l (clsOf e) = 0) :
    Calls Tryz.prog 24 #[.pointer (some ⟨s, 0, none⟩), .slice A1 n1 c1, .slice A2 n2 c2] w (NewOpOk (mkU (diffU (clsOf d) (clsOf e))) w) := by
  have vr : ∀ {D : List ClS}, (∀ z ∈ D, z.c.s.length ≤ 1000000 ∧ okVr z.c.s) → ∀ z ∈ D, z.c.s.length ≤ 100000000 ∧ okVr z.c.s := fun h z hz => ⟨by have := (h z hz).1; omega, (h z hz).2⟩
  refine (cdiff_ok s l A1 A2 n1 n2 c1 c2 d e w D1.len D2.len D1.rd D2.rd D1.cap D2.cap (by have := D1.b; omega) (by have := D2.b; omega) hS (vr D1.vr) (vr D2.vr) D1.caps hT m1 m2).mono ?_
  rintro e1 w' ⟨A, c, x, he, hx, ho, hp, y⟩
  have l1 : (clsOf d).length ≤ 20000 := by rw [clsOf_len, ← D1.len]; exact D1.b
  have l2 : (clsOf e).length ≤ 20000 := by rw [clsOf_len, ← D2.len]; exact D2.b
  have ht := diff_told (by omega) (by omega) (mayD_end m1).1 (mayD_end m2).1
  have ve : ∀ z ∈ clsOf e, okVr z.s := fun z hz => by
    obtain ⟨q, hq, rfl⟩ := List.mem_map.1 hz
    exact (D2.vr q hq).2
  obtain ⟨h1, h2⟩ := ok_made hx ht (diff_okUn m1 m2 ve) (diffM_B m1 m2) (by omega) (by omega)
  obtain ⟨k1, k2⟩ := cap_own ho
  exact ⟨A, c, x, he, hx.trans (told_mkU ht), ⟨⟨rd_made ho hp, rfl, h1, by omega⟩, k1, k2, fun z hz => by obtain ⟨g, hg⟩ := hp z hz; exact cap_part hg⟩, y⟩
end Go.Proofs.YtipoeidmblnbbaaGreatDoor
