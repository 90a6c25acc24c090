/- Merged texts: TrLaws, OfLaw. -/
import Derived.Test.YtbdkbfoplpociaaGreatDoorF2
import Derived.Test.YtbdkbfoplpociaaGreatDoorK29
import Derived.Test.YtbdkbfoplpociaaGreatDoorK32
import Derived.Test.YtbdkbfoplpociaaGreatDoorF1
import Derived.Test.YtbdkbfoplpociaaGreatDoorK31
namespace Go.Proofs.YtbdkbfoplpociaaGreatDoor
set_option linter.unusedVariables false
set_option linter.unusedSimpArgs false

/-- what may stand in a delta past itself -/
def selfU (f : Bool) : Un → Prop
  | .del => False
  | .ret q => f = true → q = []
  | .ins _ _ => True
theorem past_self (p : List Ch) : pastP true p p = [] := by
  unfold pastP lessP
  rw [if_pos rfl]
  refine List.filter_eq_nil_iff.2 fun c hc => ?_
  have : hasKey p c.key = true := List.any_eq_true.2 ⟨c, hc, by simp⟩
  rw [this]; decide
theorem self_cons {f : Bool} {u : Un} {t : List Un} (h1 : selfU f u) (h2 : ∀ x ∈ t, selfU f x) : ∀ x ∈ u :: t, selfU f x := fun x hx => by
  rcases List.mem_cons.1 hx with rfl | hx
  · exact h1
  · exact h2 x hx
theorem tra_insL (f : Bool) (A B : List Un) (hA : f = false ∨ ∀ u t, A = u :: t → isIns u = false) : ∀ I : List Un, (∀ u ∈ I, isIns u = true) → traU f A (I ++ B) = I ++ traU f A B
  | [], _ => rfl
  | .ins r s :: I, h => by
    have e := tra_insY f A (I ++ B) s hA [r]
    show traU f A ([r].map (fun r => Un.ins r s) ++ (I ++ B)) = _
    rw [e, tra_insL f A B hA I (fun u hu => h u (List.mem_cons_of_mem _ hu))]; rfl
  | .del :: I, h => by have := h .del (by simp); cases this
  | .ret p :: I, h => by have := h (.ret p) (by simp); cases this
theorem tra_retL (f : Bool) (A B : List Un) (v : Un) (hv : f = true ∨ isIns v = false) : ∀ I : List Un, (∀ u ∈ I, isIns u = true) → traU f (I ++ A) (v :: B) = List.replicate I.length (.ret []) ++ traU f A (v :: B)
  | [], _ => rfl
  | .ins r s :: I, h => by
    have e := tra_insX f (I ++ A) B s v hv [r]
    show traU f ([r].map (fun r => Un.ins r s) ++ (I ++ A)) (v :: B) = _
    rw [e, tra_retL f A B v hv I (fun u hu => h u (List.mem_cons_of_mem _ hu))]; rfl
  | .del :: I, h => by have := h .del (by simp); cases this
  | .ret p :: I, h => by have := h (.ret p) (by simp); cases this
theorem self_ins {f : Bool} {I : List Un} (h : ∀ u ∈ I, isIns u = true) : ∀ x ∈ I, selfU f x := fun x hx => by
  have := h x hx
  cases x with
  | ins r s => trivial
  | del => cases this
  | ret p => cases this
theorem self_rets (f : Bool) (k : Nat) : ∀ x ∈ List.replicate k (Un.ret []), selfU f x := fun x hx => by
  rw [(List.mem_replicate.1 hx).2]; exact fun _ => rfl
theorem self_app {f : Bool} {a b : List Un} (h1 : ∀ x ∈ a, selfU f x) (h2 : ∀ x ∈ b, selfU f x) : ∀ x ∈ a ++ b, selfU f x := fun x hx => by
  rcases List.mem_append.1 hx with hx | hx
  · exact h1 x hx
  · exact h2 x hx
theorem tra_self_t : ∀ (us I : List Un), (∀ u ∈ I, isIns u = true) → ∀ x ∈ traU true us (I ++ us), selfU true x
  | [], I, h => by rw [tra_none, List.append_nil]; exact self_ins h
  | .ins r s :: us, I, h => by
    have key : traU true (.ins r s :: us) (I ++ .ins r s :: us) = .ret [] :: traU true us ((I ++ [.ins r s]) ++ us) := by
      rw [List.append_assoc]
      show _ = .ret [] :: traU true us (I ++ .ins r s :: us)
      cases I with
      | nil => exact traU_ii us us r s r s
      | cons i I =>
        have hi := h i (by simp)
        cases i with
        | ins r' s' => exact traU_ii us _ r s r' s'
        | del => cases hi
        | ret p => cases hi
    rw [key]
    refine self_cons (fun _ => rfl) (tra_self_t us _ fun u hu => ?_)
    rcases List.mem_append.1 hu with hu | hu
    · exact h u hu
    · simp at hu; subst hu; rfl
  | .del :: us, I, h => by
    rw [tra_insL true (.del :: us) (.del :: us) (.inr fun u t e => by injection e with e _; subst e; rfl) I h, traU_dd]
    exact self_app (self_ins h) (tra_self_t us [] (fun u hu => by cases hu))
  | .ret p :: us, I, h => by
    rw [tra_insL true (.ret p :: us) (.ret p :: us) (.inr fun u t e => by injection e with e _; subst e; rfl) I h, traU_rr]
    exact self_app (self_ins h) (self_cons (fun _ => past_self p) (tra_self_t us [] (fun u hu => by cases hu)))
theorem tra_self_f : ∀ (us I : List Un), (∀ u ∈ I, isIns u = true) → ∀ x ∈ traU false (I ++ us) us, selfU false x
  | [], I, h => by rw [traU_nil]; intro x hx; cases hx
  | .ins r s :: us, I, h => by
    have key : traU false (I ++ .ins r s :: us) (.ins r s :: us) = .ins r s :: traU false ((I ++ [.ins r s]) ++ us) us := by
      rw [traU_fi, List.append_assoc]; rfl
    rw [key]
    refine self_cons trivial (tra_self_f us _ fun u hu => ?_)
    rcases List.mem_append.1 hu with hu | hu
    · exact h u hu
    · simp at hu; subst hu; rfl
  | .del :: us, I, h => by
    rw [tra_retL false (.del :: us) us .del (.inr rfl) I h, traU_dd]
    exact self_app (self_rets _ _) (tra_self_f us [] (fun u hu => by cases hu))
  | .ret p :: us, I, h => by
    rw [tra_retL false (.ret p :: us) us (.ret p) (.inr rfl) I h, traU_rr]
    exact self_app (self_rets _ _) (self_cons (fun h => by cases h) (tra_self_f us [] (fun u hu => by cases hu)))
theorem tra_self2 (f : Bool) (us : List Un) : ∀ x ∈ traU f us us, selfU f x := by
  cases f with
  | true => exact tra_self_t us [] (fun u hu => by cases hu)
  | false => exact tra_self_f us [] (fun u hu => by cases hu)
/-- a normal form of units without deletes has none, and no other patch -/
theorem cn_nodel : ∀ (us I : List Un), (∀ u ∈ us, u ≠ .del) → ∀ x ∈ cn us I 0, x ∈ I ∨ x ∈ us
  | [], I, _ => fun x hx => by rw [cn, List.replicate_zero, List.append_nil] at hx; exact .inl hx
  | .ins r s :: us, I, h => fun x hx => by
    rw [cn] at hx
    rcases cn_nodel us _ (fun u hu => h u (List.mem_cons_of_mem _ hu)) x hx with h1 | h1
    · rcases List.mem_append.1 h1 with h1 | h1
      · exact .inl h1
      · simp at h1; subst h1; exact .inr (by simp)
    · exact .inr (List.mem_cons_of_mem _ h1)
  | .del :: us, I, h => absurd rfl (h .del (by simp))
  | .ret p :: us, I, h => fun x hx => by
    rw [cn, List.replicate_zero, List.append_nil] at hx
    rcases List.mem_append.1 hx with h1 | h1
    · exact .inl h1
    · rcases List.mem_cons.1 h1 with h1 | h1
      · exact .inr (by simp [h1])
      · rcases cn_nodel us [] (fun u hu => h u (List.mem_cons_of_mem _ hu)) x h1 with h2 | h2
        · cases h2
        · exact .inr (List.mem_cons_of_mem _ h2)
theorem nf_self {f : Bool} {us : List Un} (h : ∀ x ∈ us, selfU f x) : ∀ x ∈ nf us, selfU f x := fun x hx => by
  obtain ⟨k, hk⟩ := trim_pre (canon us)
  have h1 : x ∈ canon us := by rw [hk]; exact List.mem_append_left _ hx
  rcases cn_nodel us [] (fun u hu e => by subst e; exact h .del hu) x h1 with h2 | h2
  · cases h2
  · exact h x h2
/-- ops of such units: no delete, and being first no patch -/
theorem self_ops {f : Bool} {z : List OpS} {us : List Un} (hz : osOf z = mkU us) (h : ∀ x ∈ us, selfU f x) : ∀ o ∈ z, o.o.k ≠ 3 ∧ (f = true → o.o.k = 1 → o.o.p = []) := fun o ho => by
  have hop := mkU_isOp hz o ho
  have hn := nf_self h
  rw [← mkU_units hz] at hn
  have hs : ∀ u ∈ unitsO o.o, selfU f u := fun u hu => hn u (units_mem.2 ⟨o, ho, hu⟩)
  obtain ⟨hl, _⟩ := lenO_of hop
  refine ⟨fun hk => ?_, fun hf hk => ?_⟩
  · have e := unitsO_del hk
    rw [lenO_units hop] at e
    have := hs .del (by rw [e]; exact List.mem_replicate.2 ⟨by omega, rfl⟩)
    exact this
  · have e := unitsO_ret hk
    rw [lenO_units hop] at e
    have := hs (.ret o.o.p) (by rw [e]; exact List.mem_replicate.2 ⟨by omega, rfl⟩)
    exact this hf

/-- the runes inserted, the cells deleted -/
def runesU : List Un → List Int
  | [] => []
  | .ins r _ :: us => r :: runesU us
  | _ :: us => runesU us
def delsU : List Un → Nat
  | [] => 0
  | .del :: us => delsU us + 1
  | _ :: us => delsU us
theorem runesU_append (a b : List Un) : runesU (a ++ b) = runesU a ++ runesU b := by
  induction a with
  | nil => rfl
  | cons u a ih => cases u <;> simp [runesU, ih]
theorem delsU_append (a b : List Un) : delsU (a ++ b) = delsU a + delsU b := by
  induction a with
  | nil => simp [delsU]
  | cons u a ih => cases u <;> simp [delsU, ih] <;> omega
theorem runesU_rets (k : Nat) (p : List Ch) : runesU (List.replicate k (.ret p)) = [] := by induction k with | zero => rfl | succ k ih => rw [List.replicate_succ]; exact ih
theorem runesU_dels (k : Nat) : runesU (List.replicate k .del) = [] := by induction k with | zero => rfl | succ k ih => rw [List.replicate_succ]; exact ih
theorem delsU_rets (k : Nat) (p : List Ch) : delsU (List.replicate k (.ret p)) = 0 := by induction k with | zero => rfl | succ k ih => rw [List.replicate_succ]; exact ih
theorem delsU_dels (k : Nat) : delsU (List.replicate k .del) = k := by
  induction k with
  | zero => rfl
  | succ k ih => rw [List.replicate_succ]; show delsU _ + 1 = _; rw [ih]
theorem runesU_ins (r : List Int) (s : List At) : runesU (r.map (fun r => Un.ins r s)) = r := by
  induction r with
  | nil => rfl
  | cons a r ih => show a :: runesU _ = _; rw [ih]
theorem delsU_ins (r : List Int) (s : List At) : delsU (r.map (fun r => Un.ins r s)) = 0 := by
  induction r with
  | nil => rfl
  | cons a r ih => exact ih
theorem cn_runes : ∀ (us I : List Un) (g : Nat), runesU (cn us I g) = runesU I ++ runesU us ∧ delsU (cn us I g) = delsU I + g + delsU us
  | [], I, g => by rw [cn, runesU_append, delsU_append, runesU_dels, delsU_dels]; exact ⟨rfl, rfl⟩
  | .ins r s :: us, I, g => by
    obtain ⟨h1, h2⟩ := cn_runes us (I ++ [.ins r s]) g
    rw [cn, h1, h2, runesU_append, delsU_append]
    refine ⟨by simp [runesU], ?_⟩
    show delsU I + 0 + g + delsU us = delsU I + g + delsU us
    omega
  | .del :: us, I, g => by
    obtain ⟨h1, h2⟩ := cn_runes us I (g + 1)
    rw [cn, h1, h2]
    refine ⟨rfl, ?_⟩
    show _ = delsU I + g + (delsU us + 1)
    omega
  | .ret p :: us, I, g => by
    obtain ⟨h1, h2⟩ := cn_runes us [] 0
    rw [cn, runesU_append, runesU_append, delsU_append, delsU_append, runesU_dels, delsU_dels]
    refine ⟨?_, ?_⟩
    · show runesU I ++ [] ++ runesU (cn us [] 0) = _
      rw [h1, List.append_nil]; rfl
    · show delsU I + g + delsU (cn us [] 0) = delsU I + g + delsU us
      rw [h2]
      show delsU I + g + (0 + 0 + delsU us) = _
      omega
theorem nf_runes (us : List Un) : runesU (nf us) = runesU us ∧ delsU (nf us) = delsU us := by
  obtain ⟨k, hk⟩ := trim_pre (canon us)
  obtain ⟨h1, h2⟩ := cn_runes us [] 0
  have h1' : runesU (canon us) = runesU us := h1
  have h2' : delsU (canon us) = delsU us := by show delsU (cn us [] 0) = _; rw [h2]; show 0 + 0 + delsU us = _; omega
  rw [hk, runesU_append, runesU_rets, List.append_nil] at h1'
  rw [hk, delsU_append, delsU_rets] at h2'
  exact ⟨h1', h2'⟩
theorem tra_runes (f : Bool) : ∀ vs us, runesU (traU f us vs) = runesU vs ∧ delsU (traU f us vs) ≤ delsU vs := by
  refine tra_ind2 f ?_ ?_ ?_ ?_ ?_ ?_ ?_ ?_
  · intro us; rw [traU_nil]; exact ⟨rfl, Nat.le_refl _⟩
  · intro vs; rw [tra_none]; exact ⟨rfl, Nat.le_refl _⟩
  · intro r s us v vs e ih; rw [e]; exact ih
  · intro u us r s vs e ih; rw [e]; exact ⟨congrArg (List.cons r) ih.1, ih.2⟩
  · intro us vs ih; rw [traU_dd]; exact ⟨ih.1, Nat.le_trans ih.2 (Nat.le_succ _)⟩
  · intro us q vs ih; rw [traU_dr]; exact ih
  · intro p us vs ih; rw [traU_rd]; exact ⟨ih.1, Nat.succ_le_succ ih.2⟩
  · intro p us q vs ih; rw [traU_rr]; exact ih
/-- of ops that may be: all runes, one behind the other, and all that is deleted -/
theorem ops_runes : ∀ (x : List OpS), (∀ o ∈ x, isOp o.o) → runesU (units (osOf x)) = x.flatMap (fun o => o.o.r) ∧ (delsU (units (osOf x)) : Int) = (x.map (fun o => if o.o.k = 3 then o.o.n else 0)).sum
  | [], _ => ⟨rfl, rfl⟩
  | o :: x, h => by
    obtain ⟨h1, h2⟩ := ops_runes x (fun z hz => h z (List.mem_cons_of_mem _ hz))
    have ho := h o (by simp)
    rw [units_osCons, runesU_append, delsU_append, List.flatMap_cons, List.map_cons, List.sum_cons, h1]
    rcases isOp_kind ho with k | k | k
    · obtain ⟨e, _⟩ := opI_of ho k
      have e1 := unitsO_two k
      rw [e1, runesU_ins, delsU_ins, if_neg (by rw [k]; decide)]
      exact ⟨rfl, by omega⟩
    · obtain ⟨e, hn⟩ := opD_of ho k
      have e1 : unitsO o.o = List.replicate o.o.n.toNat .del := by unfold unitsO; rw [if_neg (by rw [k]; decide), if_neg (by rw [k]; decide)]
      have er : o.o.r = [] := by rw [e]; rfl
      rw [e1, runesU_dels, delsU_dels, if_pos k, er]
      exact ⟨rfl, by omega⟩
    · obtain ⟨e, hn⟩ := opR_of ho k
      have e1 := unitsO_ret k
      have er : o.o.r = [] := by rw [e]; rfl
      rw [e1, runesU_rets, delsU_rets, if_neg (by rw [k]; decide), er]
      exact ⟨rfl, by omega⟩

/-- a gap past units; r: how far it is -/
def posU (after : Bool) : List Un → Nat → Nat
  | [], r => r
  | .ins _ _ :: us, 0 => if after = true then posU after us 0 + 1 else 0
  | .ins _ _ :: us, r + 1 => posU after us (r + 1) + 1
  | .del :: _, 0 => 0
  | .del :: us, r + 1 => posU after us r
  | .ret _ :: _, 0 => 0
  | .ret _ :: us, r + 1 => posU after us r + 1
theorem pos_mono (a : Bool) : ∀ (us : List Un) (r q : Nat), r ≤ q → posU a us r ≤ posU a us q
  | [], r, q, h => h
  | .ins c s :: us, 0, 0, h => Nat.le_refl _
  | .ins c s :: us, 0, q + 1, h => by
    have := pos_mono a us 0 (q + 1) (Nat.zero_le _)
    simp only [posU]
    split <;> omega
  | .ins c s :: us, r + 1, 0, h => by omega
  | .ins c s :: us, r + 1, q + 1, h => by have := pos_mono a us (r + 1) (q + 1) h; simp only [posU]; omega
  | .del :: us, 0, q, h => by simp only [posU]; exact Nat.zero_le _
  | .del :: us, r + 1, 0, h => by omega
  | .del :: us, r + 1, q + 1, h => by simp only [posU]; exact pos_mono a us r q (by omega)
  | .ret p :: us, 0, q, h => by simp only [posU]; exact Nat.zero_le _
  | .ret p :: us, r + 1, 0, h => by omega
  | .ret p :: us, r + 1, q + 1, h => by have := pos_mono a us r q (by omega); simp only [posU]; omega
theorem pos_after : ∀ (us : List Un) (r : Nat), posU false us r ≤ posU true us r
  | [], r => Nat.le_refl _
  | .ins c s :: us, 0 => by simp only [posU]; exact Nat.zero_le _
  | .ins c s :: us, r + 1 => by have := pos_after us (r + 1); simp only [posU]; omega
  | .del :: us, 0 => Nat.le_refl _
  | .del :: us, r + 1 => by simp only [posU]; exact pos_after us r
  | .ret p :: us, 0 => Nat.le_refl _
  | .ret p :: us, r + 1 => by have := pos_after us r; simp only [posU]; omega
theorem pos_le (a : Bool) : ∀ (us : List Un) (r : Nat), posU a us r ≤ r + us.length
  | [], r => Nat.le_refl _
  | .ins c s :: us, 0 => by have := pos_le a us 0; simp only [posU, List.length_cons]; split <;> omega
  | .ins c s :: us, r + 1 => by have := pos_le a us (r + 1); simp only [posU, List.length_cons]; omega
  | .del :: us, 0 => Nat.zero_le _
  | .del :: us, r + 1 => by have := pos_le a us r; simp only [posU, List.length_cons]; omega
  | .ret p :: us, 0 => Nat.zero_le _
  | .ret p :: us, r + 1 => by have := pos_le a us r; simp only [posU, List.length_cons]; omega
theorem pos_stop (after : Bool) : ∀ us : List Un, (after = false ∨ ∀ u t, us = u :: t → isIns u = false) → posU after us 0 = 0
  | [], _ => rfl
  | .ins r s :: us, h => by
    rcases h with rfl | h
    · rfl
    · have := h _ _ rfl; cases this
  | .del :: us, _ => rfl
  | .ret p :: us, _ => rfl
theorem pos_ins (a : Bool) (us : List Un) (s : List At) (q : Nat) (h : 0 < q ∨ a = true) : ∀ r : List Int, posU a (r.map (fun r => Un.ins r s) ++ us) q = r.length + posU a us q
  | [] => by simp
  | c :: r => by
    have ih := pos_ins a us s q h r
    show posU a (.ins c s :: (r.map (fun r => Un.ins r s) ++ us)) q = _
    cases q with
    | zero =>
      have ha : a = true := by rcases h with h | h; omega; exact h
      simp only [posU, if_pos ha, ih, List.length_cons]; omega
    | succ q => simp only [posU, ih, List.length_cons]; omega
theorem pos_dels (a : Bool) (us : List Un) : ∀ k q : Nat, k ≤ q → posU a (List.replicate k .del ++ us) q = posU a us (q - k)
  | 0, q, _ => by simp
  | k + 1, 0, h => by omega
  | k + 1, q + 1, h => by
    rw [List.replicate_succ]
    show posU a (List.replicate k .del ++ us) q = _
    rw [pos_dels a us k q (by omega)]
    congr 1; omega
theorem pos_dels2 (a : Bool) (us : List Un) : ∀ k q : Nat, q < k → posU a (List.replicate k .del ++ us) q = 0
  | 0, q, h => by omega
  | k + 1, 0, _ => rfl
  | k + 1, q + 1, h => by
    rw [List.replicate_succ]
    exact pos_dels2 a us k q (by omega)
theorem pos_rets (a : Bool) (p : List Ch) (us : List Un) : ∀ k q : Nat, k ≤ q → posU a (List.replicate k (.ret p) ++ us) q = k + posU a us (q - k)
  | 0, q, _ => by simp
  | k + 1, 0, h => by omega
  | k + 1, q + 1, h => by
    rw [List.replicate_succ]
    show posU a (List.replicate k (.ret p) ++ us) q + 1 = _
    rw [pos_rets a p us k q (by omega), show q + 1 - (k + 1) = q - k by omega]; omega
theorem pos_rets2 (a : Bool) (p : List Ch) (us : List Un) : ∀ k q : Nat, q < k → posU a (List.replicate k (.ret p) ++ us) q = q
  | 0, q, h => by omega
  | k + 1, 0, _ => rfl
  | k + 1, q + 1, h => by
    rw [List.replicate_succ]
    show posU a (List.replicate k (.ret p) ++ us) q + 1 = _
    rw [pos_rets2 a p us k q (by omega)]
end Go.Proofs.YtbdkbfoplpociaaGreatDoor
namespace Go.Proofs.YtbdkbfoplpociaaGreatDoor
set_option linter.unusedVariables false
set_option linter.unusedSimpArgs false

/-- what Of answers -/
theorem of_is {x : List Opd} (h : ∀ o ∈ x, isOp o) (hb : (units x).length ≤ 4000000000) : mkOps (ofM x) = mkU (units x) := by
  have ht := ofM_told' x Told.new h (by simpa using hb)
  rw [List.nil_append] at ht
  exact told_mkU ht
end Go.Proofs.YtbdkbfoplpociaaGreatDoor
