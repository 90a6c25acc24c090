/- Merged texts: Canon, PartsLaw, Units, OpPlace, OpFits. -/
import Derived.Test.YtipoeidmblnbbaaDoorPk8
import Derived.Test.YtipoeidmblnbbaaDoorPk12
import Derived.Test.YtipoeidmblnbbaaDoorPk11
import Derived.Test.YtipoeidmblnbbaaDoorPk6
import Derived.Test.YtipoeidmblnbbaaDoorPk19
import Derived.Test.YtipoeidmblnbbaaDoorPk13
import Derived.Test.YtipoeidmblnbbaaDoorPk2
import Derived.Deep.RegionHeld3
/- The normal form of units, and that a maker makes it: plain mathematics. -/
namespace Go.Proofs.YtipoeidmblnbbaaDoor
set_option linter.unusedVariables false
set_option linter.unusedSimpArgs false

/-- inserts ahead of deletes, gap by gap; I and g: what the gap has so far -/
def cn : List Un → List Un → Nat → List Un
  | [], I, g => I ++ List.replicate g .del
  | .ins r s :: us, I, g => cn us (I ++ [.ins r s]) g
  | .del :: us, I, g => cn us I (g + 1)
  | .ret p :: us, I, g => I ++ List.replicate g .del ++ .ret p :: cn us [] 0
def canon (us : List Un) : List Un := cn us [] 0
/-- the normal form of units -/
def nf (us : List Un) : List Un := trim (canon us)

def takesU : List Un → Nat
  | [] => 0
  | .ins _ _ :: us => takesU us
  | _ :: us => takesU us + 1
def makesU : List Un → Nat
  | [] => 0
  | .del :: us => makesU us
  | _ :: us => makesU us + 1
theorem takesU_r (p : List Ch) (us : List Un) : takesU (.ret p :: us) = takesU us + 1 := rfl
theorem takesU_d (us : List Un) : takesU (.del :: us) = takesU us + 1 := rfl
theorem takesU_i (r : Int) (s : List At) (us : List Un) : takesU (.ins r s :: us) = takesU us := rfl
theorem makesU_r (p : List Ch) (us : List Un) : makesU (.ret p :: us) = makesU us + 1 := rfl
theorem makesU_d (us : List Un) : makesU (.del :: us) = makesU us := rfl
theorem makesU_i (r : Int) (s : List At) (us : List Un) : makesU (.ins r s :: us) = makesU us + 1 := rfl
theorem takesU_append (a b : List Un) : takesU (a ++ b) = takesU a + takesU b := by
  induction a with
  | nil => simp [takesU]
  | cons u a ih => cases u <;> simp [takesU, ih] <;> omega
theorem makesU_append (a b : List Un) : makesU (a ++ b) = makesU a + makesU b := by
  induction a with
  | nil => simp [makesU]
  | cons u a ih => cases u <;> simp [makesU, ih] <;> omega
theorem takesU_del (g : Nat) : takesU (List.replicate g .del) = g := by induction g with | zero => rfl | succ g ih => rw [List.replicate_succ, takesU_d, ih]
theorem makesU_del (g : Nat) : makesU (List.replicate g .del) = 0 := by induction g with | zero => rfl | succ g ih => rw [List.replicate_succ, makesU_d, ih]
theorem cn_takes (us : List Un) : ∀ (I : List Un) (g : Nat), takesU (cn us I g) = takesU I + g + takesU us := by
  induction us with
  | nil => intro I g; simp [cn, takesU_append, takesU_del, takesU]
  | cons u us ih =>
    intro I g
    cases u with
    | ins r s => rw [cn, ih, takesU_append]; simp [takesU]
    | del => rw [cn, ih]; simp [takesU]; omega
    | ret p => rw [cn, takesU_append, takesU_append, takesU_del, takesU_r, takesU_r, ih]; simp [takesU]; try omega
theorem cn_makes (us : List Un) : ∀ (I : List Un) (g : Nat), makesU (cn us I g) = makesU I + makesU us := by
  induction us with
  | nil => intro I g; simp [cn, makesU_append, makesU_del, makesU]
  | cons u us ih =>
    intro I g
    cases u with
    | ins r s => rw [cn, ih, makesU_append]; simp [makesU]; omega
    | del => rw [cn, ih]; simp [makesU]
    | ret p => rw [cn, makesU_append, makesU_append, makesU_del, makesU_r, makesU_r, ih]; simp [makesU]; try omega
theorem canon_takes (us : List Un) : takesU (canon us) = takesU us := by rw [canon, cn_takes]; simp [takesU]
theorem canon_makes (us : List Un) : makesU (canon us) = makesU us := by rw [canon, cn_makes]; simp [makesU]

theorem cn_ins (l : List Int) (s : List At) (us : List Un) : ∀ (I : List Un) (g : Nat), cn (l.map (fun r => Un.ins r s) ++ us) I g = cn us (I ++ l.map (fun r => Un.ins r s)) g := by
  induction l with
  | nil => intro I g; simp
  | cons r l ih => intro I g; show cn (l.map _ ++ us) (I ++ [.ins r s]) g = _; rw [ih]; simp
theorem cn_del (k : Nat) (us : List Un) : ∀ (I : List Un) (g : Nat), cn (List.replicate k .del ++ us) I g = cn us I (g + k) := by
  induction k with
  | zero => intro I g; simp
  | succ k ih => intro I g; rw [List.replicate_succ]; show cn (List.replicate k .del ++ us) I (g + 1) = _; rw [ih]; congr 1; omega
theorem cn_ret (k : Nat) (p : List Ch) (us : List Un) (I : List Un) (g : Nat) : cn (List.replicate (k + 1) (.ret p) ++ us) I g = I ++ List.replicate g .del ++ List.replicate (k + 1) (.ret p) ++ cn us [] 0 := by
  have h : ∀ k, cn (List.replicate k (.ret p) ++ us) [] 0 = List.replicate k (.ret p) ++ cn us [] 0 := by
    intro k
    induction k with
    | zero => rfl
    | succ k ih => rw [List.replicate_succ]; show [] ++ List.replicate 0 .del ++ .ret p :: cn (List.replicate k (.ret p) ++ us) [] 0 = _; rw [ih]; simp
  rw [List.replicate_succ]
  show I ++ List.replicate g .del ++ .ret p :: cn (List.replicate k (.ret p) ++ us) [] 0 = _
  rw [h]; simp

/-- a maker that was told these units -/
def Told (m : Mk) (us : List Un) : Prop :=
  ∃ K I g, MkAt m K I g ∧ (∀ rest, canon (us ++ rest) = K ++ cn rest I g) ∧ K.length + I.length + g = us.length
theorem Told.new : Told Mk.new [] := ⟨[], [], 0, MkAt.new, fun rest => rfl, rfl⟩
theorem Told.retain {m : Mk} {us : List Un} (h : Told m us) (n : Int) (p : List Ch) (hb : (us.length : Int) + n ≤ 4611686018427387904) : Told (mkRetain m n p) (us ++ List.replicate n.toNat (.ret p)) := by
  obtain ⟨K, I, g, h1, h2, h3⟩ := h
  by_cases hn : n < 1
  · have : n.toNat = 0 := by omega
    rw [this]
    exact ⟨K, I, g, h1.retain0 hn, fun rest => by rw [List.replicate_zero, List.append_nil]; exact h2 rest, by simpa using h3⟩
  · obtain ⟨k, hk⟩ : ∃ k, n.toNat = k + 1 := ⟨n.toNat - 1, by omega⟩
    refine ⟨_, [], 0, h1.retain (p := p) (by omega) (by rw [h3]; exact hb), fun rest => ?_, ?_⟩
    · rw [List.append_assoc, h2, hk, cn_ret]; simp only [List.append_assoc]
    · simp only [List.length_append, List.length_replicate, List.length_nil]; omega
theorem Told.insert {m : Mk} {us : List Un} (h : Told m us) (l : List Int) (s : List At) : Told (mkInsert m l s) (us ++ l.map (fun r => Un.ins r s)) := by
  obtain ⟨K, I, g, h1, h2, h3⟩ := h
  refine ⟨K, _, g, h1.insert l s, fun rest => by rw [List.append_assoc, h2, cn_ins], by simp; omega⟩
theorem Told.delete {m : Mk} {us : List Un} (h : Told m us) (n : Int) (hb : (us.length : Int) + n ≤ 4611686018427387904) (hb2 : us.length ≤ 4611686018427387904) : Told (mkDelete m n) (us ++ List.replicate n.toNat .del) := by
  obtain ⟨K, I, g, h1, h2, h3⟩ := h
  refine ⟨K, I, _, h1.delete (n := n) (by omega) (by omega), fun rest => by rw [List.append_assoc, h2, cn_del], by simp; omega⟩
/-- what a maker makes -/
theorem Told.ops {m : Mk} {us : List Un} (h : Told m us) : tight (mkOps m) ∧ units (mkOps m) = nf us := by
  obtain ⟨K, I, g, h1, h2, h3⟩ := h
  obtain ⟨g1, g2⟩ := h1.ops
  refine ⟨g1, ?_⟩
  rw [g2, nf]
  have := h2 []
  rw [List.append_nil] at this
  rw [this]
  simp [cn, List.append_assoc]
/-- two makers that were told units of one normal form -/
theorem Told.same {m m' : Mk} {us us' : List Un} (h : Told m us) (h' : Told m' us') (e : nf us = nf us') : mkOps m = mkOps m' :=
  tight_ext h.ops.1 h'.ops.1 (by rw [h.ops.2, h'.ops.2, e])

/-- units in their normal form are their normal form -/
theorem cn_again (us : List Un) : ∀ (I : List Un) (g : Nat), (∀ u ∈ I, ∃ r s, u = .ins r s) → canon (cn us I g) = cn us I g := by
  have hI : ∀ (I : List Un) (J rest : List Un) (g : Nat), (∀ u ∈ I, ∃ r s, u = .ins r s) → cn (I ++ rest) J g = cn rest (J ++ I) g := by
    intro I
    induction I with
    | nil => intro J rest g _; simp
    | cons u I ih =>
      intro J rest g h
      obtain ⟨r, s, rfl⟩ := h u (by simp)
      show cn (I ++ rest) (J ++ [.ins r s]) g = _
      rw [ih _ _ _ (fun v hv => h v (List.mem_cons_of_mem _ hv))]; simp
  induction us with
  | nil =>
    intro I g h
    show cn (I ++ List.replicate g .del) [] 0 = _
    rw [hI I [] _ 0 h]
    have := cn_del g [] ([] ++ I) 0
    rw [List.append_nil] at this
    rw [this]; simp [cn]
  | cons u us ih =>
    intro I g h
    cases u with
    | ins r s =>
      rw [cn]
      exact ih _ _ (fun v hv => by rcases List.mem_append.1 hv with hv | hv; exact h v hv; simp at hv; exact ⟨r, s, hv⟩)
    | del => rw [cn]; exact ih _ _ h
    | ret p =>
      rw [cn]
      show cn (I ++ List.replicate g .del ++ .ret p :: cn us [] 0) [] 0 = _
      rw [List.append_assoc, hI I [] _ 0 h, cn_del, cn]
      have := ih [] 0 (by simp)
      unfold canon at this
      rw [this]; simp
theorem canon_again (us : List Un) : canon (canon us) = canon us := cn_again us [] 0 (by simp)
/-- cutting the end of a row in its form -/
theorem canon_snoc_ret (us : List Un) (p : List Ch) : canon (us ++ [.ret p]) = canon us ++ [.ret p] := by
  have h : ∀ (us I : List Un) (g : Nat), cn (us ++ [.ret p]) I g = cn us I g ++ [.ret p] := by
    intro us
    induction us with
    | nil => intro I g; simp [cn]
    | cons u us ih => intro I g; cases u <;> simp [cn, ih]
  exact h us [] 0
theorem canon_trim {us : List Un} (h : canon us = us) : canon (trim us) = trim us := by
  have key : ∀ n (us : List Un), us.length = n → canon us = us → canon (trim us) = trim us := by
    intro n
    induction n with
    | zero => intro us hn _; have : us = [] := List.eq_nil_of_length_eq_zero hn; subst this; rfl
    | succ n ih =>
      intro us hn h
      rcases List.eq_nil_or_concat us with rfl | ⟨t, u, rfl⟩
      · rfl
      · rw [List.concat_eq_append] at h hn ⊢
        by_cases hu : u = .ret []
        · subst hu
          rw [trim_snoc]
          rw [canon_snoc_ret] at h
          exact ih t (by simpa using hn) (List.append_cancel_right h)
        · rw [trim_snoc_ne hu]; exact h
  exact key _ us rfl h
theorem trim_again (us : List Un) : trim (trim us) = trim us := by
  induction us with
  | nil => rfl
  | cons u us ih =>
    rw [trim]
    cases ht : trim us with
    | nil =>
      simp only
      by_cases hu : u = .ret []
      · rw [if_pos hu]; rfl
      · rw [if_neg hu, trim_cons_ne (.inr hu)]; rfl
    | cons v vs =>
      simp only
      rw [ht] at ih
      rw [trim_cons_ne (.inl (by rw [ih]; simp)), ih]
theorem nf_again (us : List Un) : nf (nf us) = nf us := by
  unfold nf
  rw [canon_trim (canon_again us), trim_again]
end Go.Proofs.YtipoeidmblnbbaaDoor
/- The plain laws of a patch's parts. -/
namespace Go.Proofs.YtipoeidmblnbbaaDoor
set_option linter.unusedVariables false
set_option linter.unusedSimpArgs false

theorem mayP_zero {l : List Ky} {p : List Ch} (h : mayP l p = 0) : p.length ≤ 64 ∧ riseC p = true ∧ p.all okC = true ∧ p.all (thereC l) = true := by
  unfold mayP at h
  by_cases h1 : 64 < p.length
  · rw [if_pos h1] at h; cases h
  · rw [if_neg h1] at h
    by_cases h2 : riseC p = true ∧ p.all okC = true
    · rw [if_pos h2] at h
      by_cases h3 : p.all (thereC l) = true
      · exact ⟨by omega, h2.1, h2.2, h3⟩
      · rw [if_neg h3] at h; cases h
    · rw [if_neg h2] at h; cases h
theorem mayP_of {l : List Ky} {p : List Ch} (h0 : p.length ≤ 64) (h1 : riseC p = true) (h2 : ∀ c ∈ p, okC c = true) (h3 : ∀ c ∈ p, thereC l c = true) : mayP l p = 0 := by
  unfold mayP
  rw [if_neg (by omega), if_pos ⟨h1, List.all_eq_true.2 h2⟩, if_pos (List.all_eq_true.2 h3)]
theorem keep_one {l : List Ky} {id : Int} (h : (findK l id).isSome = true) : keepK l true id = !keepK l false id := by
  unfold keepK
  cases hq : findK l id with
  | none => rw [hq] at h; cases h
  | some k => simp only; cases k.block <;> rfl
theorem lk_part {l : List Ky} {b : Bool} {p : List Ch} (hp : Srt Ch.key p) (k : Int) : lk Ch.key (partP l b p) k = if keepK l b k = true then lk Ch.key p k else none := by
  unfold partP
  rw [lk_filter Ch.key hp]
  cases hq : lk Ch.key p k with
  | none => by_cases h : keepK l b k = true <;> simp [h]
  | some c =>
    have hc : c.key = k := lk_key Ch.key hq
    by_cases h : keepK l b k = true
    · simp [Option.filter, hc, h]
    · simp [Option.filter, hc, h]
theorem part_srt {l : List Ky} {b : Bool} {p : List Ch} (hp : Srt Ch.key p) : Srt Ch.key (partP l b p) := hp.filter Ch.key _
theorem there_some {l : List Ky} {p : List Ch} (h : p.all (thereC l) = true) {k : Int} {c : Ch} (hc : lk Ch.key p k = some c) : (findK l k).isSome = true := by
  have h1 := List.all_eq_true.1 h c (lk_mem Ch.key hc)
  have h2 : c.key = k := lk_key Ch.key hc
  unfold thereC at h1
  rw [h2] at h1
  exact (Bool.and_eq_true_iff.1 h1).1
theorem apply_part {l : List Ky} {p : List Ch} {s : List At} (b : Bool) (hp : riseC p = true) (ht : p.all (thereC l) = true) (hs : riseA s = true) : applyP (partP l (!b) p) (applyP (partP l b p) s) = applyP p s := by
  rw [riseC_srt] at hp
  rw [riseA_srt] at hs
  obtain ⟨a1, a2, _⟩ := apply_all (part_srt (l := l) (b := b) hp) hs
  obtain ⟨b1, b2, _⟩ := apply_all (part_srt (l := l) (b := !b) hp) a1
  obtain ⟨c1, c2, _⟩ := apply_all hp hs
  refine lk_ext At.key b1 c1 fun k => ?_
  rw [b2, a2, c2, lk_part hp, lk_part hp]
  cases hq : lk Ch.key p k with
  | none => by_cases h1 : keepK l b k = true <;> by_cases h2 : keepK l (!b) k = true <;> simp [h1, h2, lkApply]
  | some c =>
    have h3 := keep_one (there_some ht hq)
    cases b
    · cases h4 : keepK l false k <;> rw [h4] at h3 <;> simp [h3, lkApply]
    · cases h4 : keepK l false k <;> rw [h4] at h3 <;> simp [h3, h4, lkApply] <;> (intro h5; simp_all)
theorem apply_twice {p : List Ch} {s : List At} (hp : riseC p = true) (hs : riseA s = true) : applyP p (applyP p s) = applyP p s := by
  rw [riseC_srt] at hp
  rw [riseA_srt] at hs
  obtain ⟨a1, a2, _⟩ := apply_all hp hs
  obtain ⟨b1, b2, _⟩ := apply_all hp a1
  refine lk_ext At.key b1 a1 fun k => ?_
  rw [b2, a2]
  cases lk Ch.key p k with
  | none => rfl
  | some c => rfl
theorem part_len {l : List Ky} {p : List Ch} (ht : p.all (thereC l) = true) : (partP l false p).length + (partP l true p).length = p.length := by
  induction p with
  | nil => rfl
  | cons c p ih =>
    simp only [List.all_cons, Bool.and_eq_true] at ht
    have h1 := ih ht.2
    have h2 : (findK l c.key).isSome = true := by have := ht.1; unfold thereC at this; exact (Bool.and_eq_true_iff.1 this).1
    have h3 := keep_one h2
    unfold partP at *
    rw [List.filter_cons, List.filter_cons]
    cases h4 : keepK l false c.key <;> rw [h4] at h3 <;> simp [h3] <;> omega
/-- a key that the patch has not keeps its value -/
theorem apply_keeps {p : List Ch} {s : List At} (hp : riseC p = true) (hs : riseA s = true) {a : At} (ha : a ∈ s) (hn : ∀ c ∈ p, c.key ≠ a.key) : lk At.key (applyP p s) a.key = some a := by
  rw [riseC_srt] at hp
  rw [riseA_srt] at hs
  obtain ⟨a1, a2, _⟩ := apply_all hp hs
  rw [a2, lk_none Ch.key hn]
  exact lk_of_mem At.key hs ha
end Go.Proofs.YtipoeidmblnbbaaDoor
/- What units make of cells, and units composed: plain mathematics. -/
namespace Go.Proofs.YtipoeidmblnbbaaDoor
set_option linter.unusedVariables false
set_option linter.unusedSimpArgs false

/-- a cell with a patch on it -/
def actC (l : List Ky) (c : Cl) (p : List Ch) : Cl := ⟨c.r, applyP (partP l (c.r == 10) p) c.s⟩
theorem actC_nil (l : List Ky) (c : Cl) : actC l c [] = c := by cases c; rfl
/-- what units make of cells; what they do not take stays -/
def app (l : List Ky) : List Un → List Cl → List Cl
  | [], d => d
  | .ins r s :: us, d => ⟨r, s⟩ :: app l us d
  | .del :: us, d => app l us (d.drop 1)
  | .ret p :: us, d => (d.take 1).map (fun c => actC l c p) ++ app l us (d.drop 1)
theorem app_len (l : List Ky) : ∀ (us : List Un) (d : List Cl), takesU us ≤ d.length → (app l us d).length + takesU us = d.length + makesU us
  | [], d, _ => by simp [app, takesU, makesU]
  | .ins r s :: us, d, h => by have := app_len l us d h; simp [app, takesU, makesU]; omega
  | .del :: us, d, h => by
    simp only [takesU] at h
    have := app_len l us (d.drop 1) (by rw [List.length_drop]; omega)
    rw [List.length_drop] at this
    simp only [app, takesU, makesU]; omega
  | .ret p :: us, d, h => by
    simp only [takesU] at h
    have := app_len l us (d.drop 1) (by rw [List.length_drop]; omega)
    rw [List.length_drop] at this
    simp only [app, takesU, makesU, List.length_append, List.length_map, List.length_take]; omega
/-- units in two rows -/
theorem app_append (l : List Ky) : ∀ (a b : List Un) (d : List Cl), app l (a ++ b) d = (app l a (d.take (takesU a))) ++ app l b (d.drop (takesU a))
  | [], b, d => by simp [app, takesU]
  | .ins r s :: a, b, d => by show _ :: app l (a ++ b) d = _; rw [app_append l a b d]; rfl
  | .del :: a, b, d => by
    show app l (a ++ b) (d.drop 1) = _
    rw [app_append l a b (d.drop 1)]
    simp only [app, takesU]
    rw [List.drop_drop, Nat.add_comm 1, List.drop_take, Nat.add_sub_cancel]
  | .ret p :: a, b, d => by
    show (d.take 1).map _ ++ app l (a ++ b) (d.drop 1) = _
    rw [app_append l a b (d.drop 1)]
    simp only [app, takesU]
    rw [List.drop_drop, Nat.add_comm 1, List.drop_take, Nat.add_sub_cancel, List.take_take, Nat.min_eq_left (by omega), List.append_assoc]
/-- what is behind stays -/
theorem app_rest (l : List Ky) (us : List Un) (d : List Cl) : app l us d = app l us (d.take (takesU us)) ++ d.drop (takesU us) := by
  have := app_append l us [] d
  rw [List.append_nil] at this
  exact this
/-- retains without a patch at the end change nothing -/
theorem app_trim (l : List Ky) (us : List Un) (d : List Cl) : app l (trim us) d = app l us d := by
  induction us generalizing d with
  | nil => rfl
  | cons u us ih =>
    rw [trim]
    cases ht : trim us with
    | nil =>
      have h1 : ∀ e : List Cl, app l us e = e := fun e => by rw [← ih e, ht]; rfl
      simp only
      by_cases hu : u = .ret []
      · rw [if_pos hu, hu]
        simp only [app]
        rw [h1]
        have : (d.take 1).map (fun c => actC l c []) = d.take 1 := by simp [actC_nil]
        rw [this, List.take_append_drop]
      · rw [if_neg hu]
        cases u with
        | ins r s => simp [app, h1]
        | del => simp [app, h1]
        | ret p => simp [app, h1]
    | cons v vs =>
      simp only
      rw [← ht]
      cases u with
      | ins r s => simp [app, ih]
      | del => simp [app, ih]
      | ret p => simp [app, ih]
/-- an order within a gap is none -/
theorem app_cn (l : List Ky) (us : List Un) : ∀ (I : List Un) (g : Nat) (d : List Cl), (∀ u ∈ I, ∃ r s, u = .ins r s) → app l (cn us I g) d = app l I [] ++ app l us (d.drop g) := by
  have hI : ∀ (I rest : List Un) (d : List Cl), (∀ u ∈ I, ∃ r s, u = .ins r s) → app l (I ++ rest) d = app l I [] ++ app l rest d := by
    intro I
    induction I with
    | nil => intro rest d _; rfl
    | cons u I ih =>
      intro rest d h
      obtain ⟨r, s, rfl⟩ := h u (by simp)
      show _ :: app l (I ++ rest) d = _
      rw [ih rest d (fun v hv => h v (List.mem_cons_of_mem _ hv))]; rfl
  have hD : ∀ (g : Nat) (rest : List Un) (d : List Cl), app l (List.replicate g .del ++ rest) d = app l rest (d.drop g) := by
    intro g
    induction g with
    | zero => intro rest d; rfl
    | succ g ih => intro rest d; rw [List.replicate_succ]; show app l (List.replicate g .del ++ rest) (d.drop 1) = _; rw [ih, List.drop_drop, Nat.add_comm 1]
  induction us with
  | nil =>
    intro I g d h
    rw [cn, hI I _ d h]
    have := hD g [] d
    rw [List.append_nil] at this
    rw [this]
  | cons u us ih =>
    intro I g d h
    cases u with
    | ins r s =>
      have h2 : ∀ u ∈ I ++ [Un.ins r s], ∃ r s, u = .ins r s := fun v hv => by
        rcases List.mem_append.1 hv with hv | hv
        · exact h v hv
        · simp at hv; exact ⟨r, s, hv⟩
      rw [cn, ih _ _ _ h2, hI I [.ins r s] [] h, List.append_assoc]
      rfl
    | del =>
      rw [cn, ih _ _ _ h]
      show _ = _ ++ app l us ((d.drop g).drop 1)
      rw [List.drop_drop]
    | ret p =>
      rw [cn, List.append_assoc, hI I _ d h, hD]
      rw [show app l (.ret p :: cn us [] 0) (d.drop g) = ((d.drop g).take 1).map (fun c => actC l c p) ++ app l (cn us [] 0) ((d.drop g).drop 1) from rfl, ih [] 0 _ (by simp)]
      simp [app]
theorem app_canon (l : List Ky) (us : List Un) (d : List Cl) : app l (canon us) d = app l us d := by
  rw [canon, app_cn l us [] 0 d (by simp)]; rfl
theorem app_nf (l : List Ky) (us : List Un) (d : List Cl) : app l (nf us) d = app l us d := by rw [nf, app_trim, app_canon]
theorem trim_takes (us : List Un) : takesU (trim us) ≤ takesU us := by
  induction us with
  | nil => simp [trim]
  | cons u us ih =>
    rw [trim]
    cases ht : trim us with
    | nil =>
      simp only
      by_cases hu : u = .ret []
      · rw [if_pos hu]; simp [takesU]
      · rw [if_neg hu]; cases u <;> simp [takesU]
    | cons v vs =>
      simp only
      rw [ht] at ih
      cases u with
      | ins r s => rw [takesU_i, takesU_i]; exact ih
      | del => rw [takesU_d, takesU_d]; omega
      | ret p => rw [takesU_r, takesU_r]; omega
theorem nf_takes (us : List Un) : takesU (nf us) ≤ takesU us := by
  rw [nf]; exact Nat.le_trans (trim_takes _) (by rw [canon_takes]; exact Nat.le_refl _)
end Go.Proofs.YtipoeidmblnbbaaDoor
/- The walk of ops.InPlace. -/
namespace Go.Proofs.YtipoeidmblnbbaaDoor
open Go.RowKit
set_option linter.unusedVariables false
set_option linter.unusedSimpArgs false

/-- is an op's insert in place? -/
def placeO (l : List Ky) (o : Opd) : Bool :=
  if o.k = 2 ∧ 0 < o.s.length then
    !((decide (0 < (partS l true o.s).length) || decide (0 < nlR o.r)) && (decide ((partS l true o.s).length < o.s.length) || decide (nlR o.r < o.r.length)))
  else true
def placeP (l : List Ky) (x : List OpS) : Bool := x.all (fun o => placeO l o.o)
theorem place_drop {l : List Ky} {x : List OpS} {m : Nat} {o : OpS} {R : Bool} (hd : x.drop m = o :: x.drop (m + 1)) (h : placeP l (x.drop m) = R) : (placeO l o.o && placeP l (x.drop (m + 1))) = R := by
  rw [hd] at h; exact h
set_option maxRecDepth 100000 in
set_option maxHeartbeats 3200000 in
theorem inPlace_any (sc : Nat) (l : List Ky) (A : Option Addr) (n c : Nat) (x : List OpS) (w : World) (hn : n = x.length) (h : RdOp w w.heap.size A x) (hb : n ≤ 140737488355328) (hS : Sch w sc l) (ho : ∀ o ∈ x, okOp o.o) :
    Calls Tryd.prog 84 #[.pointer (some ⟨sc, 0, none⟩), .slice A n c] w fun e w' => e = .returned (.bool (placeP l x)) ∧ Below w.heap.size w w' := by
  have N := Lib.hid hn
  generalize hR : placeP l x = R
  have HR := Lib.hid hR
  clear hn hR
  go_enter Tryd.func84, Tryd.ntmps84
  go_wp2_with (fail)
  go_loopg [11] n (fun g iv wr => ∃ (m : Nat), m ≤ n ∧ g = n - m ∧ iv = .int .i64 (m : Int) ∧ Below w.heap.size w wr ∧ Hid (placeP l (x.drop m) = R))
  case atStart => exact ⟨0, by omega, rfl, rfl, Below.refl _ _, Lib.hid (by rw [List.drop_zero]; exact HR.out)⟩
  case round =>
    obtain ⟨m, hm, hg, rfl, y, HI⟩ := hrel
    have HG := Lib.hid hg
    clear hg HR
    by_cases hlt : m < n
    · have hl1 : m < x.length := by have := N.out; omega
      obtain ⟨ad, o, had0, had, hd1, hx1, hc0⟩ := (h.1.below y (Nat.le_refl _)).el hl1
      subst had0
      have hmem := List.mem_of_getElem? hx1
      obtain ⟨q1, q2, q3, q4, q5⟩ := ho o hmem
      obtain ⟨g1, g2, g3⟩ := h.2 o hmem
      have HI2 := Lib.hid (place_drop hd1 HI.out)
      obtain ⟨⟨k, nn, r, s, p⟩, Ar, cr, As, cs, Ap, cp⟩ := o
      obtain ⟨r0, r1, r2, r3, r4⟩ := op_cells hc0
      simp only at g1 g2 g3 q3 q4 q5
      have y2 := ext_trans y (ext_alloc wr (.cells #[.int .u8 k, .int .i64 nn, .slice Ar r.length cr, .slice As s.length cs, .slice Ap p.length cp] 45))
      have hbx := heap_alloc_new wr (.cells #[.int .u8 k, .int .i64 nn, .slice Ar r.length cr, .slice As s.length cs, .slice Ap p.length cp] 45)
      have hw2 : IntKind.i64.wrap ((m:Int) + 1) = (m : Int) + 1 := IntWalk.i64_in _ (by omega)
      have HBX := Lib.hid hbx
      clear hc0 hd1 hx1 hmem HI hbx
      by_cases hk : k = 2
      · subst hk
        by_cases hs : s.length = 0
        · have hs0 : ((s.length : Int) == 0) = true := by rw [hs]; rfl
          have HP : Hid (placeO l ⟨2, nn, r, s, p⟩ = true) := Lib.hid (by unfold placeO; rw [if_neg (by simp only; omega)])
          clear hs
          go_wp2_with (fail)
          go_roundg (n - (m + 1))
          case measure => have := HG.out; omega
          case rel => exact ⟨m + 1, by omega, rfl, by go_num, y2, Lib.hid (by rw [← HI2.out, HP.out, Bool.true_and])⟩
        · have hs0 : ((s.length : Int) == 0) = false := beq_eq_false_iff_ne.2 (fun e => hs (by omega))
          obtain ⟨ns, hns⟩ : ∃ X, s.length = X := ⟨_, rfl⟩
          obtain ⟨nr, hnr⟩ : ∃ X, r.length = X := ⟨_, rfl⟩
          obtain ⟨np, hnp⟩ : ∃ X, p.length = X := ⟨_, rfl⟩
          have NS := Lib.hid hns
          have NR := Lib.hid hnr
          rw [hns] at r3 hs hs0 q4
          rw [hnr] at r2 q3
          rw [hnp] at r4
          rw [hns, hnr, hnp] at y2
          have HBX2 := HBX.out
          rw [hns, hnr, hnp] at HBX2
          have HBX := Lib.hid HBX2
          clear hns hnr hnp HBX2
          go_wp2_with (fail)
          obtain ⟨B, hB⟩ : ∃ X, wr.heap.size = X := ⟨_, rfl⟩
          rw [hB] at HBX ⊢
          generalize wr.alloc (.cells #[.int .u8 2, .int .i64 nn, .slice Ar nr cr, .slice As ns cs, .slice Ap np cp] 45) = w5 at *
          have hS5 := hS.ext y2
          have ha5 := g2.ext y2
          have hr5 := g1.ext y2
          obtain ⟨c0, c1, c2, c3, c4⟩ := box_at HBX.out
          have hBl := lt_of_some HBX.out
          have yd : Below w5.heap.size w5 w5.drew := (Below.refl _ _).drew
          have hS6 := hS5.ext yd
          have ha6 := ha5.ext yd
          have hr6 := hr5.ext yd
          have HBX6 := Lib.hid ((yd.block B hBl).trans HBX.out)
          have hBl6 := lt_of_some HBX6.out
          clear r0 r1 r2 r3 r4 c0 c1 c4
          go_region_held3 (fun w' => w'.cell? ⟨B, 2, none⟩ = some (.slice Ar nr cr) ∧ w'.cell? ⟨B, 3, none⟩ = some (.slice As ns cs))
            (go_keep) (first
              | (go_at_call 36
                 with_reducible refine (partA_any sc l true As ns cs s w5.drew NS.out.symm ha6 q4 hS6).mono ?_
                 rintro e w6 ⟨A2, c2', rfl, ho2, y6⟩
                 obtain ⟨f0, f1, f2, f3, f4⟩ := box_at ((y6.block B hBl6).trans HBX6.out))
              | (go_at_call 111
                 with_reducible refine (newlines_any Ar nr cr r w5.drew NR.out.symm hr6 (by omega)).mono ?_
                 rintro e w6 ⟨rfl, rfl⟩)
              | (go_at_call 111
                 with_reducible refine (newlines_any Ar nr cr r w6 NR.out.symm (hr6.ext y6) (by omega)).mono ?_
                 rintro e w7 ⟨rfl, rfl⟩))
          all_goals
            have yy := ext_trans y2 (ext_trans yd y6)
            have HV : Hid (placeO l ⟨2, nn, r, s, p⟩ = !((decide (0 < (partS l true s).length) || decide (0 < nlR r)) && (decide ((partS l true s).length < ns) || decide (nlR r < nr)))) := Lib.hid (by
              unfold placeO
              rw [if_pos (show (2 : Int) = 2 ∧ 0 < s.length from ⟨rfl, by have := NS.out; omega⟩)]
              simp only [NS.out, NR.out])
            generalize (partS l true s).length = nb at *
            generalize nlR r = nl at *
            clear ho2 f0 f1 f4
            by_cases t1 : (0 : Int) < (nb : Int)
            · have t1' : 0 < nb := by omega
              by_cases t3 : (nb : Int) < (ns : Int)
              · have t3' : nb < ns := by omega
                go_wp2_with (fail)
                go_ret
                exact ⟨ret_bool (by rw [← HI2.out, HV.out]; simp [t1', t3']), yy⟩
              by_cases t4 : (nl : Int) < (nr : Int)
              · have t4' : nl < nr := by omega
                go_wp2_with (fail)
                go_ret
                exact ⟨ret_bool (by rw [← HI2.out, HV.out]; simp [t1', t4']), yy⟩
              have t3' : ¬ nb < ns := by omega
              have t4' : ¬ nl < nr := by omega
              go_wp2_with (fail)
              go_roundg (n - (m + 1))
              case measure => have := HG.out; omega
              case rel => exact ⟨m + 1, by omega, rfl, by go_num, yy, Lib.hid (by rw [← HI2.out, HV.out]; simp [t3', t4'])⟩
            by_cases t2 : (0 : Int) < (nl : Int)
            · have t2' : 0 < nl := by omega
              have t3 : (nb : Int) < (ns : Int) := by omega
              have t3' : nb < ns := by omega
              go_wp2_with (fail)
              go_ret
              exact ⟨ret_bool (by rw [← HI2.out, HV.out]; simp [t2', t3']), yy⟩
            have t1' : nb = 0 := by omega
            have t2' : nl = 0 := by omega
            go_wp2_with (fail)
            go_roundg (n - (m + 1))
            case measure => have := HG.out; omega
            case rel => exact ⟨m + 1, by omega, rfl, by go_num, yy, Lib.hid (by rw [← HI2.out, HV.out]; simp [t1', t2'])⟩
      · have hb2 : (k == 2) = false := beq_eq_false_iff_ne.2 hk
        have HP : Hid (placeO l ⟨k, nn, r, s, p⟩ = true) := Lib.hid (by unfold placeO; rw [if_neg (by simp only; omega)])
        clear hk
        go_wp2_with (fail)
        go_roundg (n - (m + 1))
        case measure => have := HG.out; omega
        case rel => exact ⟨m + 1, by omega, rfl, by go_num, y2, Lib.hid (by rw [← HI2.out, HP.out, Bool.true_and])⟩
    · go_wp2_with (fail)
      go_ret
      refine ⟨ret_bool ?_, y⟩
      rw [← HI.out, List.drop_eq_nil_of_le (by have := N.out; omega)]
      rfl
end Go.Proofs.YtipoeidmblnbbaaDoor
/- The walk of ops.Fits. -/
namespace Go.Proofs.YtipoeidmblnbbaaDoor
open Go.RowKit
set_option linter.unusedVariables false
set_option linter.unusedSimpArgs false

/-- as long as told behind a delta -/
def longO (n : Int) (x : List OpS) : Int := IntKind.i64.wrap (IntKind.i64.wrap (n - takesP x) + makesP x)
/-- why a delta does not fit a document of n cells -/
def fitsO (l : List Ky) (x : List OpS) (n most : Int) : Int :=
  if ¬ mayO l x = 0 then mayO l x
  else if n < 1 ∨ most < n ∨ n < takesP x then 5
  else if finalP n x = false then 6
  else if placeP l x = false then 7
  else if most < longO n x then 8 else 0

set_option maxRecDepth 100000 in
set_option maxHeartbeats 1600000 in
theorem fitsO_any (sc : Nat) (l : List Ky) (A : Option Addr) (n c : Nat) (x : List OpS) (lim most : Int) (w : World) (hn : n = x.length) (h : RdOp w w.heap.size A x) (hb : n ≤ 140737488355328) (hS : Sch w sc l) (ho : ∀ o ∈ x, okOp o.o) (hT : Lib.Utf8Tabs 1 2 w) :
    Calls Tryd.prog 56 #[.pointer (some ⟨sc, 0, none⟩), .slice A n c, .int .i64 lim, .int .i64 most] w fun e w' => e = .returned (.int .i64 (fitsO l x lim most)) ∧ Below w.heap.size w w' := by
  have N := Lib.hid hn
  obtain ⟨R, hR⟩ : ∃ X, fitsO l x lim most = X := ⟨_, rfl⟩
  rw [hR]
  unfold fitsO at hR
  have HR := Lib.hid hR
  clear hn hR
  have y := Below.refl w.heap.size w
  go_enter Tryd.func56, Tryd.ntmps56
  go_wp2_with (go_at_call 55; refine Hid.out ?_)
  refine Lib.hid ?_
  refine (mayO_any sc l A n c x w N.out h hb hS ho hT).mono ?_
  rintro e w1 ⟨rfl, y1⟩
  replace y := ext_trans y y1
  clear y1
  generalize mayO l x = E at HR ⊢
  by_cases hE : E = 0
  rotate_left
  · have hne : (E == 0) = false := beq_eq_false_iff_ne.2 hE
    have HE : Hid (E = R) := Lib.hid (by rw [← HR.out, if_pos hE])
    clear hE
    go_wp2_with (fail)
    go_ret
    exact ⟨ret_int HE.out, y⟩
  subst hE
  have HR2 : Hid ((if lim < 1 ∨ most < lim ∨ lim < takesP x then 5 else if finalP lim x = false then 6 else if placeP l x = false then 7 else if most < longO lim x then 8 else 0) = R) := Lib.hid (by rw [← HR.out, if_neg (show ¬ ¬ ((0 : Int) = 0) by simp)])
  clear HR
  by_cases h1 : lim < 1
  · go_wp2_with (fail)
    go_ret
    exact ⟨ret_int (by rw [← HR2.out, if_pos (.inl h1)]), y⟩
  by_cases h2 : most < lim
  · go_wp2_with (fail)
    go_ret
    exact ⟨ret_int (by rw [← HR2.out, if_pos (.inr (.inl h2))]), y⟩
  go_wp2_with (go_at_call 81; refine Hid.out ?_)
  refine Lib.hid ?_
  refine (takes_any A n c x _ N.out (h.ext y).1 hb).mono ?_
  rintro e w2 ⟨rfl, y1⟩
  replace y := ext_trans y y1
  clear y1
  obtain ⟨T, hT'⟩ : ∃ X, takesP x = X := ⟨_, rfl⟩
  rw [hT'] at HR2 ⊢
  have HTK := Lib.hid hT'
  clear hT'
  by_cases h3 : lim < T
  · go_wp2_with (fail)
    go_ret
    exact ⟨ret_int (by rw [← HR2.out, if_pos (.inr (.inr h3))]), y⟩
  have HR3 : Hid ((if finalP lim x = false then 6 else if placeP l x = false then 7 else if most < longO lim x then 8 else 0) = R) := Lib.hid (by rw [← HR2.out, if_neg (show ¬ (lim < 1 ∨ most < lim ∨ lim < T) by omega)])
  clear HR2
  go_wp2_with (go_at_call 83; refine Hid.out ?_)
  refine Lib.hid ?_
  refine (final_any A n c x lim _ N.out (h.ext y).1 hb).mono ?_
  rintro e w3 ⟨rfl, y1⟩
  replace y := ext_trans y y1
  clear y1
  generalize finalP lim x = F at HR3 ⊢
  cases F with
  | false =>
    go_wp2_with (fail)
    go_ret
    exact ⟨ret_int (by rw [← HR3.out]; simp), y⟩
  | true =>
    have HR4 : Hid ((if placeP l x = false then 7 else if most < longO lim x then 8 else 0) = R) := Lib.hid (by rw [← HR3.out, if_neg (show ¬ (true = false) by simp)])
    clear HR3
    go_wp2_with (go_at_call 84; refine Hid.out ?_)
    refine Lib.hid ?_
    refine (inPlace_any sc l A n c x _ N.out (h.ext y) hb (hS.ext y) ho).mono ?_
    rintro e w4 ⟨rfl, y1⟩
    replace y := ext_trans y y1
    clear y1
    generalize placeP l x = G at HR4 ⊢
    cases G with
    | false =>
      go_wp2_with (fail)
      go_ret
      exact ⟨ret_int (by rw [← HR4.out]; simp), y⟩
    | true =>
      have HR5 : Hid ((if most < longO lim x then 8 else 0) = R) := Lib.hid (by rw [← HR4.out, if_neg (show ¬ (true = false) by simp)])
      clear HR4
      go_wp2_with (go_at_call 81; refine Hid.out ?_)
      refine Lib.hid ?_
      refine (takes_any A n c x _ N.out (h.ext y).1 hb).mono ?_
      rintro e w5 ⟨rfl, y1⟩
      replace y := ext_trans y y1
      clear y1
      rw [HTK.out]
      obtain ⟨D, hD⟩ : ∃ D, IntKind.i64.wrap (lim - T) = D := ⟨_, rfl⟩
      go_wp2_with (go_at_call 82; refine Hid.out ?_)
      refine Lib.hid ?_
      refine (makes_any A n c x _ N.out (h.ext y).1 hb).mono ?_
      rintro e w6 ⟨rfl, y1⟩
      replace y := ext_trans y y1
      clear y1
      obtain ⟨U, hU⟩ : ∃ X, makesP x = X := ⟨_, rfl⟩
      rw [hU]
      obtain ⟨G, hG⟩ : ∃ G, IntKind.i64.wrap (D + U) = G := ⟨_, rfl⟩
      have HLO : Hid (longO lim x = G) := Lib.hid (by unfold longO; rw [HTK.out, hD, hU, hG])
      clear hU
      by_cases h5 : most < G
      · go_wp2_with (fail)
        go_ret
        exact ⟨ret_int (by rw [← HR5.out, HLO.out, if_pos h5]), y⟩
      · go_wp2_with (fail)
        go_ret
        exact ⟨ret_int (by rw [← HR5.out, HLO.out, if_neg (show ¬ most < G by omega)]), y⟩
end Go.Proofs.YtipoeidmblnbbaaDoor
