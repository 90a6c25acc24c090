/- Merged texts: ComLaw, InvLaw, RoundLaw. -/
import Derived.Test.YtipoeidmblnbbaaGreatDoorPk19
import Derived.Test.YtipoeidmblnbbaaGreatDoorPk24
import Derived.Test.YtipoeidmblnbbaaGreatDoorPk18
import Derived.Test.YtipoeidmblnbbaaGreatDoorPk32
import Derived.Test.YtipoeidmblnbbaaGreatDoorPk34
/- Two deltas as one, unit by unit: it does what both do one behind the other, and fits. Plain mathematics. -/
namespace Go.Proofs.YtipoeidmblnbbaaGreatDoor
set_option linter.unusedVariables false
set_option linter.unusedSimpArgs false

def isDel : Un → Bool
  | .del => true
  | _ => false
/-- both deltas as one -/
def compU (l : List Ky) : List Un → List Un → List Un
  | us, [] => us
  | us, .ins r s :: vs => .ins r s :: compU l us vs
  | us, .del :: vs => us.takeWhile isDel ++ (match us.dropWhile isDel with
    | [] => .del :: compU l [] vs
    | .ins _ _ :: us' => compU l us' vs
    | .del :: us' => compU l us' vs
    | .ret _ :: us' => .del :: compU l us' vs)
  | us, .ret q :: vs => us.takeWhile isDel ++ (match us.dropWhile isDel with
    | [] => .ret (composeP [] q) :: compU l [] vs
    | .ins r s :: us' => .ins r (actC l ⟨r, s⟩ q).s :: compU l us' vs
    | .del :: us' => compU l us' vs
    | .ret p :: us' => .ret (composeP p q) :: compU l us' vs)
section
variable (l : List Ky) (us vs : List Un) (r : Int) (s : List At) (p q : List Ch)
theorem compU_nil : compU l us [] = us := by unfold compU; rfl
theorem compU_ins : compU l us (.ins r s :: vs) = .ins r s :: compU l us vs := by rw [compU]
theorem compU_dd : compU l (.del :: us) (.del :: vs) = .del :: compU l us (.del :: vs) := by rw [compU, compU]; rfl
theorem compU_dr : compU l (.del :: us) (.ret q :: vs) = .del :: compU l us (.ret q :: vs) := by rw [compU, compU]; rfl
theorem compU_nd : compU l [] (.del :: vs) = .del :: compU l [] vs := by rw [compU]; rfl
theorem compU_nr : compU l [] (.ret q :: vs) = .ret (composeP [] q) :: compU l [] vs := by rw [compU]; rfl
theorem compU_id : compU l (.ins r s :: us) (.del :: vs) = compU l us vs := by rw [compU]; rfl
theorem compU_ir : compU l (.ins r s :: us) (.ret q :: vs) = .ins r (actC l ⟨r, s⟩ q).s :: compU l us vs := by rw [compU]; rfl
theorem compU_rd : compU l (.ret p :: us) (.del :: vs) = .del :: compU l us vs := by rw [compU]; rfl
theorem compU_rr : compU l (.ret p :: us) (.ret q :: vs) = .ret (composeP p q) :: compU l us vs := by rw [compU]; rfl
end
theorem comp_ind {P : List Un → List Un → Prop} (nil : ∀ us, P us []) (ins : ∀ us r s vs, P us vs → P us (.ins r s :: vs))
    (dd : ∀ us vs, P us (.del :: vs) → P (.del :: us) (.del :: vs)) (dr : ∀ us q vs, P us (.ret q :: vs) → P (.del :: us) (.ret q :: vs))
    (nd : ∀ vs, P [] vs → P [] (.del :: vs)) (nr : ∀ q vs, P [] vs → P [] (.ret q :: vs))
    (id : ∀ r s us vs, P us vs → P (.ins r s :: us) (.del :: vs)) (ir : ∀ r s us q vs, P us vs → P (.ins r s :: us) (.ret q :: vs))
    (rd : ∀ p us vs, P us vs → P (.ret p :: us) (.del :: vs)) (rr : ∀ p us q vs, P us vs → P (.ret p :: us) (.ret q :: vs)) : ∀ vs us, P us vs := by
  intro vs
  induction vs with
  | nil => exact nil
  | cons v vs ih =>
    intro us
    cases v with
    | ins r s => exact ins us r s vs (ih us)
    | del =>
      induction us with
      | nil => exact nd vs (ih [])
      | cons u us ihu =>
        cases u with
        | ins r s => exact id r s us vs (ih us)
        | del => exact dd us vs ihu
        | ret p => exact rd p us vs (ih us)
    | ret q =>
      induction us with
      | nil => exact nr q vs (ih [])
      | cons u us ihu =>
        cases u with
        | ins r s => exact ir r s us q vs (ih us)
        | del => exact dr us q vs ihu
        | ret p => exact rr p us q vs (ih us)
theorem part_comp {l : List Ky} {b : Bool} {p q : List Ch} (hp : riseC p = true) (hq : riseC q = true) : partP l b (composeP p q) = composeP (partP l b p) (partP l b q) := by
  rw [riseC_srt] at hp hq
  obtain ⟨a1, a2, _⟩ := compose_all hq hp
  obtain ⟨b1, b2, _⟩ := compose_all (part_srt (l := l) (b := b) hq) (part_srt (l := l) (b := b) hp)
  refine lk_ext Ch.key (part_srt a1) b1 fun k => ?_
  rw [lk_part a1, a2, b2, lk_part hq, lk_part hp]
  by_cases h : keepK l b k = true
  · simp [h]
  · simp [h]
theorem act_comp {l : List Ky} {c : Cl} {p q : List Ch} (hp : mayP l p = 0) (hq : mayP l q = 0) (hs : riseA c.s = true) : actC l (actC l c p) q = actC l c (composeP p q) := by
  have p1 := (mayP_zero hp).2.1
  have q1 := (mayP_zero hq).2.1
  have p2 : riseC (partP l (c.r == 10) p) = true := riseC_srt.2 (part_srt (riseC_srt.1 p1))
  have q2 : riseC (partP l (c.r == 10) q) = true := riseC_srt.2 (part_srt (riseC_srt.1 q1))
  show (⟨c.r, applyP (partP l (c.r == 10) q) (applyP (partP l (c.r == 10) p) c.s)⟩ : Cl) = ⟨c.r, applyP (partP l (c.r == 10) (composeP p q)) c.s⟩
  rw [part_comp p1 q1, law_compose hs p2 q2]
/-- how much it takes and makes -/
theorem comp_size (l : List Ky) : ∀ vs us, takesU (compU l us vs) = takesU us + (takesU vs - makesU us) ∧ makesU (compU l us vs) = makesU vs + (makesU us - takesU vs) := by
  refine comp_ind ?_ ?_ ?_ ?_ ?_ ?_ ?_ ?_ ?_ ?_
  · intro us; rw [compU_nil]; simp [takesU, makesU]
  · intro us r s vs ⟨h1, h2⟩; rw [compU_ins, takesU_i, takesU_i, makesU_i, makesU_i]; omega
  · intro us vs ⟨h1, h2⟩
    rw [takesU_d] at h1 h2; rw [makesU_d] at h2
    rw [compU_dd, takesU_d, takesU_d, takesU_d, makesU_d, makesU_d, makesU_d]; omega
  · intro us q vs ⟨h1, h2⟩
    rw [takesU_r] at h1 h2; rw [makesU_r] at h2
    rw [compU_dr, takesU_d, takesU_d, takesU_r, makesU_d, makesU_d, makesU_r]; omega
  · intro vs ⟨h1, h2⟩
    have e1 : takesU [] = 0 := rfl
    have e2 : makesU [] = 0 := rfl
    rw [compU_nd, takesU_d, takesU_d, makesU_d, makesU_d]; omega
  · intro q vs ⟨h1, h2⟩
    have e1 : takesU [] = 0 := rfl
    have e2 : makesU [] = 0 := rfl
    rw [compU_nr, takesU_r, takesU_r, makesU_r, makesU_r]; omega
  · intro r s us vs ⟨h1, h2⟩; rw [compU_id, takesU_i, takesU_d, makesU_i, makesU_d]; omega
  · intro r s us q vs ⟨h1, h2⟩; rw [compU_ir, takesU_i, takesU_i, takesU_r, makesU_i, makesU_i, makesU_r]; omega
  · intro p us vs ⟨h1, h2⟩; rw [compU_rd, takesU_d, takesU_d, takesU_r, makesU_d, makesU_d, makesU_r]; omega
  · intro p us q vs ⟨h1, h2⟩; rw [compU_rr, takesU_r, takesU_r, takesU_r, makesU_r, makesU_r, makesU_r]; omega
/-- it does what both do -/
theorem comp_app (l : List Ky) : ∀ vs us, ∀ (d : List Cl), takesU us ≤ d.length → (∀ u ∈ us, mU l u) → (∀ v ∈ vs, mU l v) → (∀ c ∈ d, riseA c.s = true) → takesU vs ≤ (app l us d).length → app l (compU l us vs) d = app l vs (app l us d) := by
  refine comp_ind ?_ ?_ ?_ ?_ ?_ ?_ ?_ ?_ ?_ ?_
  · intro us d _ _ _ _ _; rw [compU_nil]; rfl
  · intro us r s vs ih d h1 h2 h3 h4 h5
    rw [compU_ins]
    show _ :: app l (compU l us vs) d = _ :: app l vs (app l us d)
    rw [ih d h1 h2 (fun v hv => h3 v (List.mem_cons_of_mem _ hv)) h4 h5]
  · intro us vs ih d h1 h2 h3 h4 h5
    rw [takesU_d] at h1
    rw [compU_dd]
    exact ih (d.drop 1) (by rw [List.length_drop]; omega) (fun u hu => h2 u (List.mem_cons_of_mem _ hu)) h3 (fun c hc => h4 c (List.mem_of_mem_drop hc)) h5
  · intro us q vs ih d h1 h2 h3 h4 h5
    rw [takesU_d] at h1
    rw [compU_dr]
    exact ih (d.drop 1) (by rw [List.length_drop]; omega) (fun u hu => h2 u (List.mem_cons_of_mem _ hu)) h3 (fun c hc => h4 c (List.mem_of_mem_drop hc)) h5
  · intro vs ih d h1 h2 h3 h4 h5
    rw [takesU_d] at h5
    have h5 : takesU vs + 1 ≤ d.length := h5
    rw [compU_nd]
    exact ih (d.drop 1) (Nat.zero_le _) h2 (fun v hv => h3 v (List.mem_cons_of_mem _ hv)) (fun c hc => h4 c (List.mem_of_mem_drop hc)) (by show takesU vs ≤ (d.drop 1).length; rw [List.length_drop]; omega)
  · intro q vs ih d h1 h2 h3 h4 h5
    rw [takesU_r] at h5
    have h5 : takesU vs + 1 ≤ d.length := h5
    have hq : mayP l q = 0 := h3 (.ret q) (by simp)
    rw [compU_nr, law_nil_left (mayP_zero hq).2.1]
    have := ih (d.drop 1) (Nat.zero_le _) h2 (fun v hv => h3 v (List.mem_cons_of_mem _ hv)) (fun c hc => h4 c (List.mem_of_mem_drop hc)) (by show takesU vs ≤ (d.drop 1).length; rw [List.length_drop]; omega)
    show (d.take 1).map _ ++ app l (compU l [] vs) (d.drop 1) = (d.take 1).map _ ++ app l vs (d.drop 1)
    rw [this]; rfl
  · intro r s us vs ih d h1 h2 h3 h4 h5
    rw [takesU_i] at h1
    rw [takesU_d] at h5
    have h5 : takesU vs + 1 ≤ (app l us d).length + 1 := h5
    rw [compU_id]
    exact ih d h1 (fun u hu => h2 u (List.mem_cons_of_mem _ hu)) (fun v hv => h3 v (List.mem_cons_of_mem _ hv)) h4 (by omega)
  · intro r s us q vs ih d h1 h2 h3 h4 h5
    rw [takesU_i] at h1
    rw [takesU_r] at h5
    have h5 : takesU vs + 1 ≤ (app l us d).length + 1 := h5
    rw [compU_ir]
    show _ :: app l (compU l us vs) d = actC l ⟨r, s⟩ q :: app l vs (app l us d)
    rw [ih d h1 (fun u hu => h2 u (List.mem_cons_of_mem _ hu)) (fun v hv => h3 v (List.mem_cons_of_mem _ hv)) h4 (by omega)]
    rfl
  · intro p us vs ih d h1 h2 h3 h4 h5
    rw [takesU_r] at h1
    rw [takesU_d] at h5
    cases d with
    | nil => simp at h1
    | cons c d =>
      have h5 : takesU vs + 1 ≤ (app l us d).length + 1 := h5
      rw [compU_rd]
      exact ih d (by simp at h1; omega) (fun u hu => h2 u (List.mem_cons_of_mem _ hu)) (fun v hv => h3 v (List.mem_cons_of_mem _ hv)) (fun x hx => h4 x (List.mem_cons_of_mem _ hx)) (by omega)
  · intro p us q vs ih d h1 h2 h3 h4 h5
    rw [takesU_r] at h1
    rw [takesU_r] at h5
    cases d with
    | nil => simp at h1
    | cons c d =>
      have h5 : takesU vs + 1 ≤ (app l us d).length + 1 := h5
      rw [compU_rr]
      show actC l c (composeP p q) :: app l (compU l us vs) d = actC l (actC l c p) q :: app l vs (app l us d)
      rw [ih d (by simp at h1; omega) (fun u hu => h2 u (List.mem_cons_of_mem _ hu)) (fun v hv => h3 v (List.mem_cons_of_mem _ hv)) (fun x hx => h4 x (List.mem_cons_of_mem _ hx)) (by omega),
        act_comp (h2 (.ret p) (by simp)) (h3 (.ret q) (by simp)) (h4 c (by simp))]
theorem mem_tail {P : Un → Prop} {u : Un} {us : List Un} (h : ∀ x ∈ u :: us, P x) : ∀ x ∈ us, P x := fun x hx => h x (List.mem_cons_of_mem _ hx)
/-- what holds of all units of both, and of what they come to, holds of all that come -/
theorem comp_all {P : Un → Prop} (l : List Ky) (hd : P .del) (hir : ∀ r s q, P (.ins r s) → P (.ret q) → P (.ins r (actC l ⟨r, s⟩ q).s)) (hnr : ∀ q, P (.ret q) → P (.ret (composeP [] q))) (hrr : ∀ p q, P (.ret p) → P (.ret q) → P (.ret (composeP p q))) :
    ∀ vs us, (∀ u ∈ us, P u) → (∀ v ∈ vs, P v) → ∀ x ∈ compU l us vs, P x := by
  have cons : ∀ {u : Un} {t : List Un}, P u → (∀ x ∈ t, P x) → ∀ x ∈ u :: t, P x := fun h1 h2 x hx => by
    rcases List.mem_cons.1 hx with rfl | hx
    · exact h1
    · exact h2 x hx
  refine comp_ind ?_ ?_ ?_ ?_ ?_ ?_ ?_ ?_ ?_ ?_
  · intro us h1 _; rw [compU_nil]; exact h1
  · intro us r s vs ih h1 h2; rw [compU_ins]; exact cons (h2 _ (by simp)) (ih h1 (mem_tail h2))
  · intro us vs ih h1 h2; rw [compU_dd]; exact cons hd (ih (mem_tail h1) h2)
  · intro us q vs ih h1 h2; rw [compU_dr]; exact cons hd (ih (mem_tail h1) h2)
  · intro vs ih h1 h2; rw [compU_nd]; exact cons hd (ih h1 (mem_tail h2))
  · intro q vs ih h1 h2; rw [compU_nr]; exact cons (hnr q (h2 _ (by simp))) (ih h1 (mem_tail h2))
  · intro r s us vs ih h1 h2; rw [compU_id]; exact ih (mem_tail h1) (mem_tail h2)
  · intro r s us q vs ih h1 h2; rw [compU_ir]; exact cons (hir r s q (h1 _ (by simp)) (h2 _ (by simp))) (ih (mem_tail h1) (mem_tail h2))
  · intro p us vs ih h1 h2; rw [compU_rd]; exact cons hd (ih (mem_tail h1) (mem_tail h2))
  · intro p us q vs ih h1 h2; rw [compU_rr]; exact cons (hrr p q (h1 _ (by simp)) (h2 _ (by simp))) (ih (mem_tail h1) (mem_tail h2))
theorem comp_vU {l : List Ky} (hl : l.length ≤ 64) {us vs : List Un} (hu : ∀ u ∈ us, vU l u) (hv : ∀ v ∈ vs, vU l v) : ∀ x ∈ compU l us vs, vU l x :=
  comp_all l trivial (fun r s q h1 h2 => okCl_act (c := ⟨r, s⟩) hl h1 h2) (fun q h => by rw [law_nil_left (mayP_zero h).2.1]; exact h) (fun p q h1 h2 => stay_comp hl h1 h2) vs us hu hv
theorem comp_mU {l : List Ky} (hl : l.length ≤ 64) {us vs : List Un} (hu : ∀ u ∈ us, mU l u) (hv : ∀ v ∈ vs, mU l v) : ∀ x ∈ compU l us vs, mU l x :=
  comp_all l trivial (fun r s q h1 h2 => ⟨h1.1, stay_apply hl h1.2 (stay_filter _ h2)⟩) (fun q h => by rw [law_nil_left (mayP_zero h).2.1]; exact h) (fun p q h1 h2 => stay_comp hl h1 h2) vs us hu hv
/-- values in their ranges -/
theorem comp_okUn {l : List Ky} {us vs : List Un} (hu : ∀ u ∈ us, mU l u ∧ okUn u) (hv : ∀ v ∈ vs, mU l v ∧ okUn v) (hl : l.length ≤ 64) : ∀ x ∈ compU l us vs, mU l x ∧ okUn x := by
  refine comp_all (P := fun u => mU l u ∧ okUn u) l ⟨trivial, trivial⟩ (fun r s q h1 h2 => ⟨⟨h1.1.1, stay_apply hl h1.1.2 (stay_filter _ h2.1)⟩, ?_⟩) (fun q h => by rw [law_nil_left (mayP_zero h.1).2.1]; exact h) (fun p q h1 h2 => ⟨stay_comp hl h1.1 h2.1, vs_comp (mayP_zero h1.1).2.1 (mayP_zero h2.1).2.1 h1.2 h2.2⟩) vs us hu hv
  exact vr_act (c := ⟨r, s⟩) h1.1.2 h2.1 h1.2 h2.2
/-- the last cell stays the last one -/
theorem app_pos' (l : List Ky) {us : List Un} {d : List Cl} {n a : Nat} (hd : 1 ≤ d.length) (h1 : takesU us ≤ d.length) (h2 : finU n a us = true) (h3 : n = a + d.length) : 1 ≤ (app l us d).length := by
  rcases List.eq_nil_or_concat d with rfl | ⟨t, c, rfl⟩
  · simp at hd
  · rw [List.concat_eq_append] at *
    obtain ⟨t', c', e, _⟩ := app_last l us t c n a (by simpa using h1) h2 (by simpa using h3)
    rw [e]; simp
theorem comp_fin (l : List Ky) : ∀ vs us, ∀ (d : List Cl) (n a n' a' : Nat), takesU us ≤ d.length → takesU vs ≤ (app l us d).length → finU n a us = true → finU n' a' vs = true → n = a + d.length → n' = a' + (app l us d).length → finU n a (compU l us vs) = true := by
  refine comp_ind ?_ ?_ ?_ ?_ ?_ ?_ ?_ ?_ ?_ ?_
  · intro us d n a n' a' _ _ h3 _ _ _; rw [compU_nil]; exact h3
  · intro us r s vs ih d n a n' a' h1 h2 h3 h4 h5 h6
    simp only [finU, Bool.and_eq_true, decide_eq_true_eq] at h4
    rw [compU_ins]
    show (decide (a ≠ n) && finU n a (compU l us vs)) = true
    rw [ih d n a n' a' h1 h2 h3 h4.2 h5 h6, Bool.and_true]
    refine decide_eq_true (fun e => ?_)
    -- then nothing is left below either
    have hd0 : d = [] := List.eq_nil_of_length_eq_zero (by omega)
    subst hd0
    have hus := finU_end (n := n) (by rw [← e]; rw [← e] at h3; exact h3) (by simpa using h1)
    subst hus
    have : (app l [] ([] : List Cl)).length = 0 := rfl
    omega
  · intro us vs ih d n a n' a' h1 h2 h3 h4 h5 h6
    rw [takesU_d] at h1
    simp only [finU, Bool.and_eq_true] at h3
    rw [compU_dd]
    show (decide (a + 1 ≠ n) && finU n (a + 1) (compU l us (.del :: vs))) = true
    rw [h3.1, Bool.true_and]
    exact ih (d.drop 1) n (a + 1) n' a' (by rw [List.length_drop]; omega) h2 h3.2 h4 (by rw [List.length_drop]; omega) h6
  · intro us q vs ih d n a n' a' h1 h2 h3 h4 h5 h6
    rw [takesU_d] at h1
    simp only [finU, Bool.and_eq_true] at h3
    rw [compU_dr]
    show (decide (a + 1 ≠ n) && finU n (a + 1) (compU l us (.ret q :: vs))) = true
    rw [h3.1, Bool.true_and]
    exact ih (d.drop 1) n (a + 1) n' a' (by rw [List.length_drop]; omega) h2 h3.2 h4 (by rw [List.length_drop]; omega) h6
  · intro vs ih d n a n' a' h1 h2 h3 h4 h5 h6
    rw [takesU_d] at h2
    have h2 : takesU vs + 1 ≤ d.length := h2
    have h6 : n' = a' + d.length := h6
    simp only [finU, Bool.and_eq_true, decide_eq_true_eq] at h4
    rw [compU_nd]
    show (decide (a + 1 ≠ n) && finU n (a + 1) (compU l [] vs)) = true
    rw [ih (d.drop 1) n (a + 1) n' (a' + 1) (Nat.zero_le _) (by show _ ≤ (d.drop 1).length; rw [List.length_drop]; omega) rfl h4.2 (by rw [List.length_drop]; omega) (by show _ = _ + (d.drop 1).length; rw [List.length_drop]; omega), Bool.and_true]
    exact decide_eq_true (by omega)
  · intro q vs ih d n a n' a' h1 h2 h3 h4 h5 h6
    rw [takesU_r] at h2
    have h2 : takesU vs + 1 ≤ d.length := h2
    have h6 : n' = a' + d.length := h6
    simp only [finU] at h4
    rw [compU_nr]
    exact ih (d.drop 1) n (a + 1) n' (a' + 1) (Nat.zero_le _) (by show _ ≤ (d.drop 1).length; rw [List.length_drop]; omega) rfl h4 (by rw [List.length_drop]; omega) (by show _ = _ + (d.drop 1).length; rw [List.length_drop]; omega)
  · intro r s us vs ih d n a n' a' h1 h2 h3 h4 h5 h6
    rw [takesU_i] at h1
    rw [takesU_d] at h2
    have h2 : takesU vs + 1 ≤ (app l us d).length + 1 := h2
    have h6 : n' = a' + ((app l us d).length + 1) := h6
    simp only [finU, Bool.and_eq_true, decide_eq_true_eq] at h3 h4
    rw [compU_id]
    exact ih d n a n' (a' + 1) h1 (by omega) h3.2 h4.2 h5 (by omega)
  · intro r s us q vs ih d n a n' a' h1 h2 h3 h4 h5 h6
    rw [takesU_i] at h1
    rw [takesU_r] at h2
    have h2 : takesU vs + 1 ≤ (app l us d).length + 1 := h2
    have h6 : n' = a' + ((app l us d).length + 1) := h6
    simp only [finU, Bool.and_eq_true, decide_eq_true_eq] at h3 h4
    rw [compU_ir]
    show (decide (a ≠ n) && finU n a (compU l us vs)) = true
    rw [ih d n a n' (a' + 1) h1 (by omega) h3.2 h4 h5 (by omega), Bool.and_true]
    exact decide_eq_true h3.1
  · intro p us vs ih d n a n' a' h1 h2 h3 h4 h5 h6
    rw [takesU_r] at h1
    rw [takesU_d] at h2
    cases d with
    | nil => simp at h1
    | cons c d =>
      simp only [List.length_cons] at h1 h5
      have h2 : takesU vs + 1 ≤ (app l us d).length + 1 := h2
      have h6 : n' = a' + ((app l us d).length + 1) := h6
      simp only [finU, Bool.and_eq_true, decide_eq_true_eq] at h3 h4
      rw [compU_rd]
      show (decide (a + 1 ≠ n) && finU n (a + 1) (compU l us vs)) = true
      rw [ih d n (a + 1) n' (a' + 1) (by omega) (by omega) h3 h4.2 (by omega) (by omega), Bool.and_true]
      refine decide_eq_true (fun e => ?_)
      have hd0 : d = [] := List.eq_nil_of_length_eq_zero (by omega)
      subst hd0
      have hus := finU_end (n := n) (by rw [← e]; rw [← e] at h3; exact h3) (by simpa using h1)
      subst hus
      have : (app l [] ([] : List Cl)).length = 0 := rfl
      omega
  · intro p us q vs ih d n a n' a' h1 h2 h3 h4 h5 h6
    rw [takesU_r] at h1
    rw [takesU_r] at h2
    cases d with
    | nil => simp at h1
    | cons c d =>
      simp only [List.length_cons] at h1 h5
      have h2 : takesU vs + 1 ≤ (app l us d).length + 1 := h2
      have h6 : n' = a' + ((app l us d).length + 1) := h6
      simp only [finU] at h3 h4
      rw [compU_rr]
      exact ih d n (a + 1) n' (a' + 1) (by omega) (by omega) h3 h4 (by omega) (by omega)
/-- both fit: so does the composed one -/
theorem comp_fit {l : List Ky} (hl : l.length ≤ 64) {us vs : List Un} {d : List Cl} {most : Nat} (hf : FitU l us d.length most) (hg : FitU l vs (app l us d).length most) (hm : most ≤ 536870912) : FitU l (compU l us vs) d.length most := by
  obtain ⟨s1, s2⟩ := comp_size l vs us
  have hlen := app_len l us d hf.t
  have h1 := hf.t; have h2 := hg.t; have h3 := hf.m; have h4 := hg.m; have h5 := hf.nm; have h6 := hg.nm; have h7 := hf.mb; have h8 := hg.mb; have h9 := hf.tb
  refine ⟨comp_vU hl hf.v hg.v, by omega, hf.n1, hf.nm, comp_fin l vs us d d.length 0 _ 0 hf.t hg.t hf.f hg.f (by omega) (by omega), by omega, by omega, by omega⟩
theorem comp_len (l : List Ky) : ∀ vs us, (compU l us vs).length ≤ us.length + vs.length := by
  refine comp_ind ?_ ?_ ?_ ?_ ?_ ?_ ?_ ?_ ?_ ?_
  · intro us; rw [compU_nil]; simp
  · intro us r s vs ih; rw [compU_ins]; simp only [List.length_cons]; omega
  · intro us vs ih; rw [compU_dd]; simp only [List.length_cons] at *; omega
  · intro us q vs ih; rw [compU_dr]; simp only [List.length_cons] at *; omega
  · intro vs ih; rw [compU_nd]; simp only [List.length_cons] at *; omega
  · intro q vs ih; rw [compU_nr]; simp only [List.length_cons] at *; omega
  · intro r s us vs ih; rw [compU_id]; simp only [List.length_cons] at *; omega
  · intro r s us q vs ih; rw [compU_ir]; simp only [List.length_cons] at *; omega
  · intro p us vs ih; rw [compU_rd]; simp only [List.length_cons] at *; omega
  · intro p us q vs ih; rw [compU_rr]; simp only [List.length_cons] at *; omega
/-- the special cases of the laws -/
theorem comp_none {l : List Ky} : ∀ (vs : List Un), (∀ v ∈ vs, mU l v) → compU l [] vs = vs
  | [], _ => compU_nil l []
  | .ins r s :: vs, h => by rw [compU_ins, comp_none vs (mem_tail h)]
  | .del :: vs, h => by rw [compU_nd, comp_none vs (mem_tail h)]
  | .ret q :: vs, h => by rw [compU_nr, comp_none vs (mem_tail h), law_nil_left (mayP_zero (h (.ret q) (by simp))).2.1]
theorem comp_rets (l : List Ky) (p : List Ch) (us vs : List Un) : ∀ k, compU l (List.replicate k (.ret p) ++ us) (List.replicate k (.ret []) ++ vs) = List.replicate k (.ret p) ++ compU l us vs
  | 0 => rfl
  | k + 1 => by
    rw [List.replicate_succ, List.replicate_succ]
    show compU l (.ret p :: (List.replicate k (.ret p) ++ us)) (.ret [] :: (List.replicate k (.ret []) ++ vs)) = _
    rw [compU_rr, comp_rets l p us vs k, composeP_nil]; rfl
theorem comp_inss (l : List Ky) (s : List At) (us vs : List Un) : ∀ (r : List Int), compU l (r.map (fun r => Un.ins r s) ++ us) (List.replicate r.length (.ret []) ++ vs) = r.map (fun r => Un.ins r s) ++ compU l us vs
  | [] => rfl
  | a :: r => by
    rw [List.length_cons, List.replicate_succ]
    show compU l (.ins a s :: (r.map (fun r => Un.ins r s) ++ us)) (.ret [] :: (List.replicate r.length (.ret []) ++ vs)) = _
    rw [compU_ir, comp_inss l s us vs r, actC_nil]; rfl
theorem comp_gone (l : List Ky) (s : List At) (us vs : List Un) : ∀ (r : List Int), compU l (r.map (fun r => Un.ins r s) ++ us) (List.replicate r.length .del ++ vs) = compU l us vs
  | [] => rfl
  | a :: r => by
    rw [List.length_cons, List.replicate_succ]
    show compU l (.ins a s :: (r.map (fun r => Un.ins r s) ++ us)) (.del :: (List.replicate r.length .del ++ vs)) = _
    rw [compU_id, comp_gone l s us vs r]
theorem comp_over (l : List Ky) (p q : List Ch) : ∀ k, compU l (List.replicate k (.ret p)) (List.replicate k (.ret q)) = List.replicate k (.ret (composeP p q))
  | 0 => compU_nil l []
  | k + 1 => by rw [List.replicate_succ, List.replicate_succ, compU_rr, comp_over l p q k]; rfl
/-- a delete ahead -/
theorem comp_dels {l : List Ky} (k : Nat) : ∀ (vs I : List Un) (g : Nat), (∀ v ∈ vs, mU l v) → cn (compU l (List.replicate k .del) vs) I g = cn vs I (g + k)
  | [], I, g, _ => by
    rw [compU_nil]
    have := cn_del k [] I g
    rw [List.append_nil] at this
    exact this
  | .ins r s :: vs, I, g, h => by
    rw [compU_ins, cn, cn]
    exact comp_dels k vs _ g (mem_tail h)
  | .del :: vs, I, g, h => by
    have e : compU l (List.replicate k .del) (.del :: vs) = List.replicate k .del ++ .del :: compU l [] vs := by
      induction k with
      | zero => exact compU_nd l vs
      | succ k ih => rw [List.replicate_succ, compU_dd, ih]; rfl
    rw [e, cn_del, comp_none vs (mem_tail h)]
  | .ret q :: vs, I, g, h => by
    have e : compU l (List.replicate k .del) (.ret q :: vs) = List.replicate k .del ++ .ret (composeP [] q) :: compU l [] vs := by
      induction k with
      | zero => exact compU_nr l vs q
      | succ k ih => rw [List.replicate_succ, compU_dr, ih]; rfl
    rw [e, cn_del, comp_none vs (mem_tail h), law_nil_left (mayP_zero (h (.ret q) (by simp))).2.1]
theorem same_keys {p q : List Ch} (hp : riseC p = true) (hq : riseC q = true) (h : p.map (·.key) = q.map (·.key)) : composeP p q = q := by
  have hp' := riseC_srt.1 hp
  have hq' := riseC_srt.1 hq
  obtain ⟨a1, a2, _⟩ := compose_all hq' hp'
  refine lk_ext Ch.key a1 hq' fun k => ?_
  rw [a2]
  cases hk : lk Ch.key q k with
  | some c => rfl
  | none =>
    cases hk2 : lk Ch.key p k with
    | none => rfl
    | some c =>
      exfalso
      have h1 : k ∈ p.map (·.key) := List.mem_map.2 ⟨c, lk_mem Ch.key hk2, lk_key Ch.key hk2⟩
      rw [h] at h1
      obtain ⟨x, hx, hxk⟩ := List.mem_map.1 h1
      have := lk_of_mem Ch.key hq' hx
      rw [hxk, hk] at this; cases this
end Go.Proofs.YtipoeidmblnbbaaGreatDoor
/- The inverse of units on cells: it leads back, fits, and a delta and its normal form have one. Plain mathematics. -/
namespace Go.Proofs.YtipoeidmblnbbaaGreatDoor
set_option linter.unusedVariables false
set_option linter.unusedSimpArgs false

def invC (l : List Ky) (c : Cl) (p : List Ch) : List Ch := invertP c.s (partP l (c.r == 10) p)
/-- what takes units back, on cells -/
def invU (l : List Ky) : List Un → List Cl → List Un
  | [], _ => []
  | .ins _ _ :: us, d => .del :: invU l us d
  | .del :: us, d => (d.take 1).map (fun c => Un.ins c.r c.s) ++ invU l us (d.drop 1)
  | .ret p :: us, d => (d.take 1).map (fun c => Un.ret (invC l c p)) ++ invU l us (d.drop 1)
theorem invC_nil (l : List Ky) (c : Cl) : invC l c [] = [] := rfl
theorem inv_part {l : List Ky} {c : Cl} {p : List Ch} (hp : riseC p = true) : partP l (c.r == 10) (invC l c p) = invC l c p := by
  unfold partP
  refine List.filter_eq_self.2 fun x hx => ?_
  unfold invC at hx
  have hq : riseC (partP l (c.r == 10) p) = true := riseC_srt.2 (part_srt (riseC_srt.1 hp))
  have key : ∃ y ∈ partP l (c.r == 10) p, y.key = x.key := by
    unfold invertP at hx
    rw [List.mem_flatMap] at hx
    obtain ⟨y, hy, hx⟩ := hx
    exact ⟨y, hy, (inv1_key hx).symm⟩
  obtain ⟨y, hy, e⟩ := key
  rw [← e]
  exact (List.mem_filter.1 hy).2
theorem act_back {l : List Ky} {c : Cl} {p : List Ch} (hp : mayP l p = 0) (hs : mayS l c.s = 0) : actC l (actC l c p) (invC l c p) = c := by
  have hr := (mayP_zero hp).2.1
  have hq : riseC (partP l (c.r == 10) p) = true := riseC_srt.2 (part_srt (riseC_srt.1 hr))
  have e1 : (actC l c p).r = c.r := rfl
  have e2 : (actC l c p).s = applyP (partP l (c.r == 10) p) c.s := rfl
  show (⟨c.r, applyP (partP l (c.r == 10) (invC l c p)) (applyP (partP l (c.r == 10) p) c.s)⟩ : Cl) = c
  rw [inv_part hr]
  unfold invC
  rw [law_back (mayS_zero hs).2.1 hq]
/-- it leads back -/
theorem inv_back {l : List Ky} : ∀ (us : List Un) (d : List Cl), takesU us ≤ d.length → (∀ u ∈ us, mU l u) → (∀ c ∈ d, mayS l c.s = 0) → app l (invU l us d) (app l us d) = d
  | [], d, _, _, _ => rfl
  | .ins r s :: us, d, h, hu, hd => by
    show app l (invU l us d) ((app l (.ins r s :: us) d).drop 1) = d
    show app l (invU l us d) (app l us d) = d
    exact inv_back us d h (fun u hu' => hu u (List.mem_cons_of_mem _ hu')) hd
  | .del :: us, [], h, hu, hd => by rw [takesU_d] at h; simp at h
  | .ret p :: us, [], h, hu, hd => by rw [takesU_r] at h; simp at h
  | .del :: us, c :: d, h, hu, hd => by
    rw [takesU_d] at h
    show c :: app l (invU l us d) (app l us d) = c :: d
    rw [inv_back us d (by simp at h; omega) (fun u hu' => hu u (List.mem_cons_of_mem _ hu')) (fun x hx => hd x (List.mem_cons_of_mem _ hx))]
  | .ret p :: us, c :: d, h, hu, hd => by
    rw [takesU_r] at h
    show actC l (actC l c p) (invC l c p) :: app l (invU l us d) (app l us d) = c :: d
    rw [inv_back us d (by simp at h; omega) (fun u hu' => hu u (List.mem_cons_of_mem _ hu')) (fun x hx => hd x (List.mem_cons_of_mem _ hx)), act_back (hu (.ret p) (by simp)) (hd c (by simp))]
theorem inv_takes (l : List Ky) : ∀ (us : List Un) (d : List Cl), takesU us ≤ d.length → takesU (invU l us d) = makesU us ∧ makesU (invU l us d) = takesU us
  | [], d, _ => ⟨rfl, rfl⟩
  | .ins r s :: us, d, h => by
    obtain ⟨h1, h2⟩ := inv_takes l us d h
    exact ⟨by show takesU (.del :: invU l us d) = _; rw [takesU_d, makesU_i, h1], by show makesU (.del :: invU l us d) = _; rw [makesU_d, takesU_i, h2]⟩
  | .del :: us, [], h => by rw [takesU_d] at h; simp at h
  | .ret p :: us, [], h => by rw [takesU_r] at h; simp at h
  | .del :: us, c :: d, h => by
    rw [takesU_d] at h
    obtain ⟨h1, h2⟩ := inv_takes l us d (by simp at h; omega)
    exact ⟨by show takesU (.ins c.r c.s :: invU l us d) = _; rw [takesU_i, makesU_d, h1], by show makesU (.ins c.r c.s :: invU l us d) = _; rw [makesU_i, takesU_d, h2]⟩
  | .ret p :: us, c :: d, h => by
    rw [takesU_r] at h
    obtain ⟨h1, h2⟩ := inv_takes l us d (by simp at h; omega)
    exact ⟨by show takesU (.ret _ :: invU l us d) = _; rw [takesU_r, makesU_r, h1], by show makesU (.ret _ :: invU l us d) = _; rw [makesU_r, takesU_r, h2]⟩
theorem inv_len (l : List Ky) : ∀ (us : List Un) (d : List Cl), (invU l us d).length ≤ us.length
  | [], d => Nat.le_refl _
  | .ins r s :: us, d => by have := inv_len l us d; simp only [invU, List.length_cons]; omega
  | .del :: us, d => by have := inv_len l us (d.drop 1); simp only [invU, List.length_append, List.length_map, List.length_take, List.length_cons]; omega
  | .ret p :: us, d => by have := inv_len l us (d.drop 1); simp only [invU, List.length_append, List.length_map, List.length_take, List.length_cons]; omega
/-- it may be -/
theorem inv_vU {l : List Ky} (hl : l.length ≤ 64) : ∀ (us : List Un) (d : List Cl), (∀ u ∈ us, mU l u) → (∀ c ∈ d, okCl l c) → ∀ u ∈ invU l us d, vU l u
  | [], d, _, _ => fun u hu => by cases hu
  | .ins r s :: us, d, h, hd => fun u hu => by
    rcases List.mem_cons.1 hu with rfl | hu
    · trivial
    · exact inv_vU hl us d (fun v hv => h v (List.mem_cons_of_mem _ hv)) hd u hu
  | .del :: us, d, h, hd => fun u hu => by
    rcases List.mem_append.1 hu with hu | hu
    · obtain ⟨c, hc, rfl⟩ := List.mem_map.1 hu
      exact hd c (List.mem_of_mem_take hc)
    · exact inv_vU hl us _ (fun v hv => h v (List.mem_cons_of_mem _ hv)) (fun c hc => hd c (List.mem_of_mem_drop hc)) u hu
  | .ret p :: us, d, h, hd => fun u hu => by
    rcases List.mem_append.1 hu with hu | hu
    · obtain ⟨c, hc, rfl⟩ := List.mem_map.1 hu
      have hp : mayP l p = 0 := h (.ret p) (by simp)
      exact stay_inv hl (hd c (List.mem_of_mem_take hc)).2.1 (stay_filter _ hp)
    · exact inv_vU hl us _ (fun v hv => h v (List.mem_cons_of_mem _ hv)) (fun c hc => hd c (List.mem_of_mem_drop hc)) u hu
theorem inv_okUn {l : List Ky} : ∀ (us : List Un) (d : List Cl), (∀ u ∈ us, mU l u) → (∀ c ∈ d, mayS l c.s = 0 ∧ okVr c.s) → ∀ u ∈ invU l us d, okUn u
  | [], d, _, _ => fun u hu => by cases hu
  | .ins r s :: us, d, h, hd => fun u hu => by
    rcases List.mem_cons.1 hu with rfl | hu
    · trivial
    · exact inv_okUn us d (fun v hv => h v (List.mem_cons_of_mem _ hv)) hd u hu
  | .del :: us, d, h, hd => fun u hu => by
    rcases List.mem_append.1 hu with hu | hu
    · obtain ⟨c, hc, rfl⟩ := List.mem_map.1 hu
      exact (hd c (List.mem_of_mem_take hc)).2
    · exact inv_okUn us _ (fun v hv => h v (List.mem_cons_of_mem _ hv)) (fun c hc => hd c (List.mem_of_mem_drop hc)) u hu
  | .ret p :: us, d, h, hd => fun u hu => by
    rcases List.mem_append.1 hu with hu | hu
    · obtain ⟨c, hc, rfl⟩ := List.mem_map.1 hu
      have hp : mayP l p = 0 := h (.ret p) (by simp)
      obtain ⟨h1, h2⟩ := hd c (List.mem_of_mem_take hc)
      exact vs_inv (riseC_srt.2 (part_srt (riseC_srt.1 (mayP_zero hp).2.1))) (mayS_va h1 h2)
    · exact inv_okUn us _ (fun v hv => h v (List.mem_cons_of_mem _ hv)) (fun c hc => hd c (List.mem_of_mem_drop hc)) u hu
/-- the last cell stays the last one -/
theorem app_pos (l : List Ky) (us : List Un) (d : List Cl) (n a : Nat) (hd : 1 ≤ d.length) (h1 : takesU us ≤ d.length) (h2 : finU n a us = true) (h3 : n = a + d.length) : 1 ≤ (app l us d).length := by
  rcases List.eq_nil_or_concat d with rfl | ⟨t, c, rfl⟩
  · simp at hd
  · rw [List.concat_eq_append] at *
    obtain ⟨t', c', e, _⟩ := app_last l us t c n a (by simpa using h1) h2 (by simpa using h3)
    rw [e]; simp
theorem inv_fin (l : List Ky) : ∀ (us : List Un) (d : List Cl) (n a n' a' : Nat), takesU us ≤ d.length → finU n a us = true → n = a + d.length → n' = a' + (app l us d).length → finU n' a' (invU l us d) = true
  | [], d, n, a, n', a', _, _, _, _ => rfl
  | .ins r s :: us, d, n, a, n', a', h1, h2, h3, h4 => by
    simp only [finU, Bool.and_eq_true, decide_eq_true_eq] at h2
    have e : (app l (.ins r s :: us) d).length = (app l us d).length + 1 := rfl
    have hp := app_pos l us d n a (by omega) h1 h2.2 h3
    show (decide (a' + 1 ≠ n') && finU n' (a' + 1) (invU l us d)) = true
    rw [inv_fin l us d n a n' (a' + 1) h1 h2.2 h3 (by omega), Bool.and_true]
    exact decide_eq_true (by omega)
  | .del :: us, [], n, a, n', a', h1, h2, h3, h4 => by rw [takesU_d] at h1; simp at h1
  | .ret p :: us, [], n, a, n', a', h1, h2, h3, h4 => by rw [takesU_r] at h1; simp at h1
  | .del :: us, c :: d, n, a, n', a', h1, h2, h3, h4 => by
    rw [takesU_d] at h1
    simp only [finU, Bool.and_eq_true, decide_eq_true_eq] at h2
    simp only [List.length_cons] at h1 h3
    have e : app l (.del :: us) (c :: d) = app l us d := rfl
    rw [e] at h4
    have hp := app_pos l us d n (a + 1) (by omega) (by omega) h2.2 (by omega)
    show (decide (a' ≠ n') && finU n' a' (invU l us d)) = true
    rw [inv_fin l us d n (a + 1) n' a' (by omega) h2.2 (by omega) h4, Bool.and_true]
    exact decide_eq_true (by omega)
  | .ret p :: us, c :: d, n, a, n', a', h1, h2, h3, h4 => by
    rw [takesU_r] at h1
    simp only [finU] at h2
    simp only [List.length_cons] at h1 h3
    have e : (app l (.ret p :: us) (c :: d)).length = (app l us d).length + 1 := rfl
    show finU n' (a' + 1) (invU l us d) = true
    exact inv_fin l us d n (a + 1) n' (a' + 1) (by omega) h2 (by omega) (by omega)
/-- what takes a delta back fits what it makes -/
theorem inv_fit0 {l : List Ky} (hl : l.length ≤ 64) {us : List Un} {d : List Cl} {most N : Nat} (hf : FitU l us d.length most) (hd : mayD l d = 0) (hm : most ≤ 536870912) (h1 : d.length ≤ N) (h2 : (app l us d).length ≤ N) (hN : N ≤ 536870912) : FitU l (invU l us d) (app l us d).length N := by
  obtain ⟨_, hc, t, c, ed, _⟩ := mayD_iff.1 hd
  have hpos : 1 ≤ d.length := by rw [ed]; simp
  have hlen := app_len l us d hf.t
  obtain ⟨t1, t2⟩ := inv_takes l us d hf.t
  have hfm := hf.m
  have ha := app_pos l us d d.length 0 hpos hf.t hf.f (by omega)
  refine ⟨inv_vU hl us d (fun u hu => vU_mU (hf.v u hu)) hc, ?_, ha, h2, inv_fin l us d d.length 0 _ 0 hf.t hf.f (by omega) (by omega), ?_, ?_, ?_⟩
  · have := hf.t; omega
  · have := hf.t; omega
  · rw [t1]; exact hf.mb
  · rw [t2]; exact hf.tb
theorem invU_append (l : List Ky) : ∀ (a b : List Un) (d : List Cl), invU l (a ++ b) d = invU l a (d.take (takesU a)) ++ invU l b (d.drop (takesU a))
  | [], b, d => by simp [invU, takesU]
  | .ins r s :: a, b, d => by show _ :: invU l (a ++ b) d = _; rw [invU_append l a b d]; rfl
  | .del :: a, b, d => by
    show (d.take 1).map _ ++ invU l (a ++ b) (d.drop 1) = _
    rw [invU_append l a b (d.drop 1)]
    simp only [invU, takesU]
    rw [List.drop_drop, Nat.add_comm 1, List.drop_take, Nat.add_sub_cancel, List.take_take, Nat.min_eq_left (by omega), List.append_assoc]
  | .ret p :: a, b, d => by
    show (d.take 1).map _ ++ invU l (a ++ b) (d.drop 1) = _
    rw [invU_append l a b (d.drop 1)]
    simp only [invU, takesU]
    rw [List.drop_drop, Nat.add_comm 1, List.drop_take, Nat.add_sub_cancel, List.take_take, Nat.min_eq_left (by omega), List.append_assoc]
theorem invU_inss (l : List Ky) : ∀ (I : List Un) (d : List Cl), (∀ u ∈ I, ∃ r s, u = Un.ins r s) → invU l I d = List.replicate I.length .del
  | [], d, _ => rfl
  | u :: I, d, h => by
    obtain ⟨r, s, rfl⟩ := h u (by simp)
    show .del :: invU l I d = _
    rw [invU_inss l I d (fun v hv => h v (List.mem_cons_of_mem _ hv)), List.length_cons, List.replicate_succ]
theorem invU_dels (l : List Ky) : ∀ (g : Nat) (d : List Cl), invU l (List.replicate g .del) d = (d.take g).map (fun c => Un.ins c.r c.s)
  | 0, d => by simp [invU]
  | g + 1, [] => by
    have := invU_dels l g []
    rw [List.replicate_succ]
    show [] ++ invU l (List.replicate g .del) [] = _
    rw [this]; simp
  | g + 1, c :: d => by
    rw [List.replicate_succ]
    show Un.ins c.r c.s :: invU l (List.replicate g .del) d = _
    rw [invU_dels l g d]; rfl
theorem invU_rets (l : List Ky) : ∀ (g : Nat) (d : List Cl), g ≤ d.length → invU l (List.replicate g (.ret [])) d = List.replicate g (.ret [])
  | 0, d, _ => by simp [invU]
  | g + 1, [], h => by simp at h
  | g + 1, c :: d, h => by
    rw [List.replicate_succ]
    show Un.ret (invC l c []) :: invU l (List.replicate g (.ret [])) d = _
    rw [invU_rets l g d (by simp at h; omega), invC_nil]
theorem takesU_gap {I : List Un} (hI : ∀ u ∈ I, ∃ r s, u = Un.ins r s) : takesU I = 0 := by
  induction I with
  | nil => rfl
  | cons u I ih =>
    obtain ⟨r, s, rfl⟩ := hI u (by simp)
    rw [takesU_i]; exact ih (fun v hv => hI v (List.mem_cons_of_mem _ hv))
theorem cn_insC (J : List Cl) (us : List Un) (I : List Un) (g : Nat) : cn (J.map (fun c => Un.ins c.r c.s) ++ us) I g = cn us (I ++ J.map (fun c => Un.ins c.r c.s)) g := by
  induction J generalizing I with
  | nil => simp
  | cons c J ih =>
    show cn (J.map (fun c => Un.ins c.r c.s) ++ us) (I ++ [Un.ins c.r c.s]) g = _
    rw [ih]; simp
theorem inv_cn (l : List Ky) (us : List Un) : ∀ (I : List Un) (g : Nat) (d : List Cl), (∀ u ∈ I, ∃ r s, u = Un.ins r s) → g + takesU us ≤ d.length →
    canon (invU l (cn us I g) d) = cn (invU l us (d.drop g)) ((d.take g).map (fun c => Un.ins c.r c.s)) I.length := by
  have hgap : ∀ (I : List Un) (g : Nat) (rest : List Un) (d : List Cl), (∀ u ∈ I, ∃ r s, u = Un.ins r s) → invU l (I ++ List.replicate g .del ++ rest) d = List.replicate I.length .del ++ ((d.take g).map (fun c => Un.ins c.r c.s) ++ invU l rest (d.drop g)) := by
    intro I g rest d hI
    have ht : takesU (I ++ List.replicate g .del) = g := by rw [takesU_append, takesU_gap hI, takesU_del]; omega
    rw [invU_append, ht, invU_append, takesU_gap hI, invU_inss l I _ hI, invU_dels]
    simp [List.take_take]
  induction us with
  | nil =>
    intro I g d hI h
    have := hgap I g [] d hI
    rw [List.append_nil] at this
    rw [cn, this, canon, cn_del, cn_insC]
    simp [invU, cn]
  | cons u us ih =>
    intro I g d hI h
    cases u with
    | ins r s =>
      have h2 : ∀ u ∈ I ++ [Un.ins r s], ∃ r s, u = .ins r s := fun v hv => by
        rcases List.mem_append.1 hv with hv | hv
        · exact hI v hv
        · simp at hv; exact ⟨r, s, hv⟩
      rw [cn, ih _ _ _ h2 h]
      show _ = cn (.del :: invU l us (d.drop g)) _ _
      rw [cn]; simp
    | del =>
      rw [takesU_d] at h
      obtain ⟨c, t, hc⟩ : ∃ c t, d.drop g = c :: t := by
        cases hd : d.drop g with
        | nil => have := congrArg List.length hd; rw [List.length_drop] at this; simp at this; omega
        | cons c t => exact ⟨c, t, rfl⟩
      have h1 : d.drop (g + 1) = t := by rw [← List.drop_drop, hc]; rfl
      have h2 : d.take (g + 1) = d.take g ++ [c] := by rw [List.take_add, hc]; rfl
      rw [cn, ih _ _ _ hI (by omega), h1, h2, hc]
      show _ = cn (.ins c.r c.s :: invU l us t) _ _
      rw [cn]; simp
    | ret p =>
      rw [takesU_r] at h
      obtain ⟨c, t, hc⟩ : ∃ c t, d.drop g = c :: t := by
        cases hd : d.drop g with
        | nil => have := congrArg List.length hd; rw [List.length_drop] at this; simp at this; omega
        | cons c t => exact ⟨c, t, rfl⟩
      have ht : takesU us ≤ t.length := by
        have := congrArg List.length hc; rw [List.length_drop, List.length_cons] at this; omega
      rw [cn, hgap I g _ d hI, canon, cn_del, cn_insC, hc]
      show cn (.ret (invC l c p) :: invU l (cn us [] 0) t) _ _ = cn (.ret (invC l c p) :: invU l us t) _ _
      rw [cn, cn]
      have := ih [] 0 t (by simp) (by omega)
      rw [canon] at this
      rw [this]
      simp
/-- a delta and its normal form have one inverse -/
theorem inv_nf (l : List Ky) {us : List Un} {d : List Cl} (h : takesU us ≤ d.length) : nf (invU l (nf us) d) = nf (invU l us d) := by
  have h1 := inv_cn l us [] 0 d (by simp) (by omega)
  have h2 : canon (invU l (canon us) d) = canon (invU l us d) := by show canon (invU l (cn us [] 0) d) = cn (invU l us d) [] 0; simpa using h1
  unfold nf
  rw [← h2]
  have ht : takesU (canon us) ≤ d.length := by rw [canon_takes]; exact h
  generalize canon us = v at *
  obtain ⟨k, hk⟩ := trim_pre v
  have e : invU l v d = invU l (trim v) (d.take (takesU (trim v))) ++ List.replicate k (.ret []) := by
    have ht' : takesU (trim v) + k ≤ d.length := by
      have := congrArg takesU hk
      rw [takesU_append] at this
      have hr : takesU (List.replicate k (Un.ret [])) = k := by
        clear this hk
        induction k with
        | zero => rfl
        | succ k ih => rw [List.replicate_succ, takesU_r, ih]
      omega
    conv => lhs; rw [hk]
    rw [invU_append, invU_rets l k _ (by rw [List.length_drop]; omega)]
  have e2 : invU l (trim v) d = invU l (trim v) (d.take (takesU (trim v))) := by
    have := invU_append l (trim v) [] d
    rw [List.append_nil] at this
    rw [this]; simp [invU]
  rw [e2, e]
  have hcr : ∀ (k : Nat) (x : List Un), trim (canon (x ++ List.replicate k (.ret []))) = trim (canon x) := by
    intro k
    induction k with
    | zero => intro x; simp
    | succ k ih =>
      intro x
      rw [List.replicate_succ', ← List.append_assoc, canon_snoc_ret, trim_snoc, ih]
  rw [hcr]
end Go.Proofs.YtipoeidmblnbbaaGreatDoor
/- What the laws of layers 20 to 23 ask of deltas that are applied in turn. Plain mathematics. -/
namespace Go.Proofs.YtipoeidmblnbbaaGreatDoor
set_option linter.unusedVariables false
set_option linter.unusedSimpArgs false

theorem FitU.up {l : List Ky} {us : List Un} {n a b : Nat} (h : FitU l us n a) (hab : a ≤ b) : FitU l us n b :=
  ⟨h.v, h.t, h.n1, by have := h.nm; omega, h.f, by have := h.m; omega, h.tb, h.mb⟩
theorem nil_mayD (l : List Ky) : mayD l [] = 3 := rfl
/-- a delta on no cells is refused -/
theorem nil_bad (l : List Ky) (x : List OpS) (most : Int) : applyN l x [] most ≠ 0 := fun h => by
  have := (applyN_zero h).1
  rw [nil_mayD] at this; cases this
/-- a delta that is applied, of no great size -/
structure In (l : List Ky) (x : List OpS) (d : List Cl) (most : Int) (N : Nat) : Prop where
  n : N ≤ 10000
  le : (N : Int) ≤ most
  at_ : applyN l x d (N : Int) = 0
  may : mayO l x = 0
  isop : ∀ o ∈ x, isOp o.o
  fit : FitU l (units (osOf x)) d.length N
  mu : ∀ u ∈ units (osOf x), mU l u
  len : (app l (units (osOf x)) d).length ≤ d.length + szX x
  dn : d.length ≤ N
  an : (app l (units (osOf x)) d).length ≤ N
  doc : mayD l d = 0
  ul : (units (osOf x)).length ≤ 2 * d.length + szX x
theorem apply_in {l : List Ky} {x : List OpS} {d : List Cl} {most : Int} (hx : x.length ≤ 1048576) (hz : d.length + szX x ≤ 10000) (h : applyN l x d most = 0) : ∃ N : Nat, In l x d most N := by
  obtain ⟨h1, h2⟩ := applyN_zero h
  obtain ⟨g1, g2, g3, g4, g5, g6, g7⟩ := fits_zero h2
  obtain ⟨m1, m2, m3⟩ := mayO_zero g1
  obtain ⟨s1, s2⟩ := sums_units x (good_isOp m1)
  have ht := takes_sum m1 hx
  have hm := makes_sum m1 hx
  have hl := longO_is (n := (d.length : Int)) m1 hx (by omega) (by omega) m2 m3
  have hs := makes_sz (good_isOp m1)
  rw [hl] at g7
  have hN : applyN l x d ((max d.length (d.length + makesU (units (osOf x)) - takesU (units (osOf x))) : Nat) : Int) = 0 := zero_applyN h1 (fits_down h2 (by omega) (by rw [hl]; omega))
  obtain ⟨hg, hf⟩ := fits_units (most := max d.length (d.length + makesU (units (osOf x)) - takesU (units (osOf x)))) hx (by omega) (applyN_zero hN).2
  have hal := app_len l (units (osOf x)) d hf.t
  have hul := units_length (us := units (osOf x))
  exact ⟨_, by omega, by omega, hN, g1, good_isOp m1, hf, good_mU m1, by omega, by omega, by have := hf.m; omega, h1, by have := hf.t; omega⟩
/-- what is made of it may be -/
theorem In.out {l : List Ky} {x : List OpS} {d : List Cl} {most : Int} {N : Nat} (h : In l x d most N) (hl : l.length ≤ 64) : mayD l (app l (units (osOf x)) d) = 0 :=
  app_mayD hl h.doc h.fit (by have := h.fit.m; have := h.n; have := h.fit.t; omega)
theorem In.rise {l : List Ky} {x : List OpS} {d : List Cl} {most : Int} {N : Nat} (h : In l x d most N) : ∀ c ∈ d, riseA c.s = true := fun c hc =>
  (mayS_zero ((mayD_iff.1 h.doc).2.1 c hc).2.1).2.1
/-- both composed -/
theorem In.comp {l : List Ky} {x y : List OpS} {d e : List Cl} {m1 m2 : Int} {N1 N2 : Nat} (h : In l x d m1 N1) (he : e = app l (units (osOf x)) d) (h2 : In l y e m2 N2) (hl : l.length ≤ 64) :
    FitU l (compU l (units (osOf x)) (units (osOf y))) d.length (max N1 N2) ∧ app l (compU l (units (osOf x)) (units (osOf y))) d = app l (units (osOf y)) e := by
  subst he
  exact ⟨comp_fit hl (h.fit.up (Nat.le_max_left _ _)) (h2.fit.up (Nat.le_max_right _ _)) (by have := h.n; have := h2.n; omega),
    comp_app l _ _ d h.fit.t h.mu h2.mu h.rise h2.fit.t⟩
/-- made ops of units that fit -/
theorem made_in {l : List Ky} {z : List OpS} {us : List Un} {d : List Cl} {N : Nat} (hz : osOf z = mkU us) (hb : z.length ≤ 1048576) (hd : mayD l d = 0) (hf : FitU l us d.length N) (hN : N ≤ 536870912) {most : Int} (hm : (N : Int) ≤ most) :
    applyN l z d most = 0 ∧ applyN l z d (N : Int) = 0 ∧ app l (units (osOf z)) d = app l us d := by
  obtain ⟨h1, h2⟩ := made_applyU hz hb (by omega) hd hf
  exact ⟨applyN_up h1 hm, h1, h2⟩
theorem mayO_of {l : List Ky} {x : List OpS} {d : List Cl} {most : Int} (h : applyN l x d most = 0) : mayO l x = 0 := (fits_zero (applyN_zero h).2).1
end Go.Proofs.YtipoeidmblnbbaaGreatDoor
