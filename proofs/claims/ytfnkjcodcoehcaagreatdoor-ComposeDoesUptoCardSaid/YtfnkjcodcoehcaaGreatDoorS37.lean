/- Merged texts: ComStep2, MayC, MadeSum. -/
import Derived.Test.YtfnkjcodcoehcaaGreatDoorS34
import Derived.Test.YtfnkjcodcoehcaaGreatDoorS36
import Derived.Test.YtfnkjcodcoehcaaGreatDoorS15
import Derived.Test.YtfnkjcodcoehcaaGreatDoorS24
import Derived.Test.YtfnkjcodcoehcaaGreatDoorS19
import Derived.Test.YtfnkjcodcoehcaaGreatDoorS16
import Derived.Test.YtfnkjcodcoehcaaGreatDoorS23
namespace Go.Proofs.YtfnkjcodcoehcaaGreatDoor
set_option linter.unusedVariables false
set_option linter.unusedSimpArgs false

/-- what the units and the sizes are -/
structure CQ (l : List Ky) (T : List Un) (P : Nat) (X : List OpS) (a : Nat) (Y : List OpS) (c : Nat) (m : Mk) (us : List Un) (K : Nat) : Prop where
  told : Told m us
  b : MkB m K 64
  k : K + 2 * (X.length + Y.length) + insN (restU X a) + insN (restU Y c) ≤ P
  eq : us ++ compU l (restU X a) (restU Y c) = T
  gx : goodO l X
  gy : goodO l Y
theorem restU_nil : restU [] 0 = [] := rfl
theorem first_unit {x : OpS} {t : List OpS} {a : Nat} (h : isOp x.o) (ha : a < lenO x.o) (h2 : x.o.k ≠ 2) : ∃ v B, restU (x :: t) a = v :: B ∧ (v = .del ∨ ∃ q, v = .ret q) := by
  have hl := lenO_units h
  have e : units (osOf (x :: t)) = unitsO x.o ++ units (osOf t) := rfl
  unfold restU
  rw [e, List.drop_append_of_le_length (by omega)]
  have hr : ∃ u : Un, (u = .del ∨ ∃ q, u = .ret q) ∧ unitsO x.o = List.replicate (lenO x.o) u := by
    rcases isOp_kind h with hk | hk | hk
    · exact absurd hk h2
    · exact ⟨.del, .inl rfl, by rw [← hl]; unfold unitsO; rw [if_neg (by rw [hk]; decide), if_neg (by rw [hk]; decide), List.length_replicate]⟩
    · exact ⟨.ret x.o.p, .inr ⟨_, rfl⟩, by rw [← hl]; unfold unitsO; rw [if_neg (by rw [hk]; decide), if_pos hk, List.length_replicate]⟩
  obtain ⟨u, hu, hr⟩ := hr
  rw [hr, List.drop_replicate]
  obtain ⟨q, hq⟩ : ∃ q, lenO x.o - a = q + 1 := ⟨lenO x.o - a - 1, by omega⟩
  rw [hq, List.replicate_succ]
  exact ⟨u, _, rfl, hu⟩
theorem unitsO_two {o : Opd} (h : o.k = 2) : unitsO o = o.r.map (fun r => Un.ins r o.s) := by unfold unitsO; rw [if_pos h]
theorem unitsO_del {o : Opd} (h : o.k = 3) : unitsO o = List.replicate (unitsO o).length .del := by
  have e : unitsO o = List.replicate o.n.toNat .del := by unfold unitsO; rw [if_neg (by rw [h]; decide), if_neg (by rw [h]; decide)]
  rw [e, List.length_replicate]
theorem unitsO_ret {o : Opd} (h : o.k = 1) : unitsO o = List.replicate (unitsO o).length (.ret o.p) := by
  have e : unitsO o = List.replicate o.n.toNat (.ret o.p) := by unfold unitsO; rw [if_neg (by rw [h]; decide), if_pos h]
  rw [e, List.length_replicate]
theorem insN_rets (k : Nat) (p : List Ch) : insN (List.replicate k (.ret p)) = 0 := by
  induction k with
  | zero => rfl
  | succ k ih => rw [List.replicate_succ]; exact ih
theorem tellO_any {m : Mk} {us : List Un} (h : Told m us) {o : Opd} (ho : isOp o) (hb : us.length + (unitsO o).length ≤ 4611686018427387904) : Told (tellO m o) (us ++ unitsO o) := by
  have hl := lenO_units ho
  obtain ⟨_, h1⟩ := lenO_of ho
  have hn : o.n ≤ (unitsO o).length := by
    rw [hl, h1]
    unfold sizeO
    rcases isOp_kind ho with hk | hk | hk
    · rw [if_pos hk]; obtain ⟨e, _⟩ := opI_of ho hk; rw [e]; show (0 : Int) ≤ _; omega
    · rw [if_neg (by rw [hk]; decide)]; exact Int.le_refl _
    · rw [if_neg (by rw [hk]; decide)]; exact Int.le_refl _
  exact tellO_told h ho (by omega) (by omega)
/-- an op taken from a list that is left no longer than before -/
theorem took_len {x : OpS} {t X' : List OpS} {a n a' : Nat} {o : Opd} (h : tookV (x :: t) a n o X' a') : X'.length ≤ (x :: t).length ∧ (lenO x.o - a ≤ n → a < lenO x.o → X'.length + 1 = (x :: t).length) ∧ (∀ z ∈ X', z ∈ x :: t) := by
  obtain ⟨h1, h2⟩ := h
  rcases h2 with ⟨h3, rfl, rfl⟩ | ⟨h3, rfl, rfl⟩
  · exact ⟨by simp, fun _ _ => by simp, fun z hz => List.mem_cons_of_mem _ hz⟩
  · exact ⟨Nat.le_refl _, fun h4 h5 => by omega, fun z hz => hz⟩
/-- the over reader's insert -/
theorem CQ.ins {l : List Ky} {T : List Un} {P : Nat} {X : List OpS} {a : Nat} {y : OpS} {t Y' : List OpS} {c c' : Nat} {m : Mk} {us : List Un} {K : Nat} {o : Opd} (h : CQ l T P X a (y :: t) c m us K) (hy : isOp y.o) (hc : c < lenO y.o) (hl : lenO y.o ≤ 536870912) (hk : y.o.k = 2) (ht : tookV (y :: t) c 536870912 o Y' c') (hT : T.length ≤ 4000000000) :
    CQ l T P X a Y' c' (tellO m o) (us ++ unitsO o) (K + o.r.length) ∧ Y'.length + 1 = (y :: t).length ∧ o.r.length ≤ P ∧ o.s.length ≤ 64 ∧ o.p.length ≤ 64 := by
  obtain ⟨g1, g2, g3, g4, g5, g6⟩ := took_units hy hc (by omega) ht
  obtain ⟨k1, k2, k3⟩ := took_len ht
  have hk2 : o.k = 2 := g4.trans hk
  have hlen := k2 (by omega) hc
  have e1 := unitsO_two hk2
  have heq := h.eq
  rw [g1, e1, comp_ins, ← e1, ← List.append_assoc] at heq
  have hk := h.k
  rw [g1, insN_append, e1, insN_ins] at hk
  have hm : tellO m o = mkInsert m o.r o.s := by unfold tellO; rw [if_neg (by rw [hk2]; decide), if_pos hk2]
  have hll := congrArg List.length heq
  rw [List.length_append, List.length_append] at hll
  have fy := one_facts (h.gy y (by simp))
  refine ⟨⟨tellO_any h.told g2 (by omega), ?_, by rw [List.length_cons] at *; omega, heq, h.gx, fun z hz => h.gy z (k3 z hz)⟩, hlen, by omega, by rw [g5]; exact (mayS_zero fy.2.2.2.1).1, by rw [g6]; exact (mayP_zero fy.2.2.2.2).1⟩
  rw [hm]
  exact h.b.insert o.r (by rw [g5]; exact (mayS_zero (one_facts (h.gy y (by simp))).2.2.2.1).1)
/-- the under reader's delete -/
theorem CQ.del {l : List Ky} {T : List Un} {P : Nat} {x y : OpS} {s t X' : List OpS} {a c a' : Nat} {m : Mk} {us : List Un} {K : Nat} {o : Opd} (h : CQ l T P (x :: s) a (y :: t) c m us K) (hx : isOp x.o) (hy : isOp y.o) (ha : a < lenO x.o) (hc : c < lenO y.o) (hl : lenO x.o ≤ 536870912) (hk : x.o.k = 3) (hk2 : y.o.k ≠ 2)
    (ht : tookV (x :: s) a 536870912 o X' a') (hT : T.length ≤ 4000000000) : CQ l T P X' a' (y :: t) c (tellO m o) (us ++ unitsO o) K ∧ X'.length + 1 = (x :: s).length ∧ o.r.length ≤ P ∧ o.s.length ≤ 64 ∧ o.p.length ≤ 64 := by
  obtain ⟨g1, g2, g3, g4, g5, g6⟩ := took_units hx ha (by omega) ht
  obtain ⟨k1, k2, k3⟩ := took_len ht
  have hk3 : o.k = 3 := g4.trans hk
  have fx := one_facts (h.gx x (by simp))
  have hlen := k2 (by omega) ha
  have e1 := unitsO_del hk3
  obtain ⟨v, B, hv, hvv⟩ := first_unit (t := t) hy hc hk2
  have heq := h.eq
  rw [g1, hv, e1, comp_del l _ _ v hvv, ← e1, ← hv, ← List.append_assoc] at heq
  have hkk := h.k
  rw [g1, insN_append] at hkk
  have hm : tellO m o = mkDelete m o.n := by unfold tellO; rw [if_neg (by rw [hk3]; decide), if_neg (by rw [hk3]; decide)]
  have hll := congrArg List.length heq
  rw [List.length_append, List.length_append] at hll
  refine ⟨⟨tellO_any h.told g2 (by omega), ?_, by rw [List.length_cons (a := x)] at *; omega, heq, fun z hz => h.gx z (k3 z hz), h.gy⟩, hlen, by rw [show o.r = [] by obtain ⟨e, _⟩ := opD_of g2 hk3; rw [e]; rfl]; exact Nat.zero_le _, by rw [g5]; exact (mayS_zero fx.2.2.2.1).1, by rw [g6]; exact (mayP_zero fx.2.2.2.2).1⟩
  rw [hm]
  exact h.b.delete o.n
/-- the under reader told to its end -/
theorem CQ.rest {l : List Ky} {T : List Un} {P : Nat} {x : OpS} {s X' : List OpS} {a a' : Nat} {m : Mk} {us : List Un} {K : Nat} {o : Opd} (h : CQ l T P (x :: s) a [] 0 m us K) (hx : isOp x.o) (ha : a < lenO x.o) (hl : lenO x.o ≤ 536870912)
    (ht : tookV (x :: s) a 536870912 o X' a') (hT : T.length ≤ 4000000000) : CQ l T P X' a' [] 0 (tellO m o) (us ++ unitsO o) (K + 2 + o.r.length) ∧ X'.length + 1 = (x :: s).length ∧ o.r.length ≤ P ∧ o.s.length ≤ 64 ∧ o.p.length ≤ 64 := by
  obtain ⟨g1, g2, g3, g4, g5, g6⟩ := took_units hx ha (by omega) ht
  obtain ⟨k1, k2, k3⟩ := took_len ht
  have hlen := k2 (by omega) ha
  have heq := h.eq
  rw [restU_nil, compU_nil, g1, ← List.append_assoc] at heq
  have hkk := h.k
  rw [g1, insN_append] at hkk
  have hll := congrArg List.length heq
  rw [List.length_append, List.length_append] at hll
  have hr : o.r.length ≤ insN (unitsO o) := by
    rcases isOp_kind g2 with hk | hk | hk
    · rw [unitsO_two hk, insN_ins]; exact Nat.le_refl _
    · obtain ⟨e, _⟩ := opD_of g2 hk; rw [e]; exact Nat.zero_le _
    · obtain ⟨e, _⟩ := opR_of g2 hk; rw [e]; exact Nat.zero_le _
  have ho := one_facts (h.gx x (by simp))
  refine ⟨⟨tellO_any h.told g2 (by omega), ?_, by rw [List.length_cons] at *; omega, by rw [restU_nil, compU_nil]; exact heq, fun z hz => h.gx z (k3 z hz), h.gy⟩, hlen, by omega, by rw [g5]; exact (mayS_zero ho.2.2.2.1).1, by rw [g6]; exact (mayP_zero ho.2.2.2.2).1⟩
  rcases isOp_kind g2 with hk | hk | hk
  · have hm : tellO m o = mkInsert m o.r o.s := by unfold tellO; rw [if_neg (by rw [hk]; decide), if_pos hk]
    rw [hm]
    exact (h.b.insert o.r (by rw [g5]; exact (mayS_zero ho.2.2.2.1).1)).mono (by omega) (Nat.le_refl _)
  · have hm : tellO m o = mkDelete m o.n := by unfold tellO; rw [if_neg (by rw [hk]; decide), if_neg (by rw [hk]; decide)]
    rw [hm]
    exact (h.b.delete o.n).mono (by omega) (Nat.le_refl _)
  · have hm : tellO m o = mkRetain m o.n o.p := by unfold tellO; rw [if_pos hk]
    rw [hm]
    exact (h.b.retain o.n (by rw [g6]; exact (mayP_zero ho.2.2.2.2).1)).mono (by omega) (Nat.le_refl _)
/-- a retain or delete of the over reader on what the under reader makes -/
theorem CQ.both {l : List Ky} (hl : l.length ≤ 64) {T : List Un} {P : Nat} {X : List OpS} {y : OpS} {t X' Y' : List OpS} {a c a' c' n : Nat} {m : Mk} {us : List Un} {K : Nat} {o q : Opd} (h : CQ l T P X a (y :: t) c m us K)
    (h0 : X = [] → a = 0) (hx : ∀ x s, X = x :: s → isOp x.o ∧ a < lenO x.o ∧ lenO x.o ≤ 536870912 ∧ x.o.k ≠ 3) (hy : isOp y.o) (hc : c < lenO y.o) (hly : lenO y.o ≤ 536870912) (hky : y.o.k ≠ 2) (hn : n = min (longR X a) (lenO y.o - c))
    (tx : tookV X a n o X' a') (ty : tookV (y :: t) c n q Y' c') (hT : T.length ≤ 4000000000) :
    (∃ us' K', CQ l T P X' a' Y' c' (bothM l m o q) us' K' ∧ X'.length + Y'.length < X.length + (y :: t).length) ∧ (o.k = 1 ∨ o.k = 2) ∧ K + o.r.length ≤ P ∧ o.s.length ≤ 64 ∧ o.p.length ≤ 64 ∧ q.p.length ≤ 64 ∧ (composeP o.p q.p).length ≤ 64 ∧ ∀ x ∈ o.r, (actC l ⟨x, o.s⟩ q.p).s.length ≤ 64 := by
  have hn1 : 1 ≤ n := by
    cases X with
    | nil => rw [hn]; show 1 ≤ min 536870912 _; omega
    | cons x s => obtain ⟨_, h2, _⟩ := hx x s rfl; rw [hn]; show 1 ≤ min (lenO x.o - a) _; omega
  obtain ⟨y1, y2, y3, y4, y5, y6⟩ := took_units hy hc hn1 ty
  obtain ⟨ly1, ly2, ly3⟩ := took_len ty
  have fy := one_facts (h.gy y (by simp))
  have hyl : (unitsO q).length = n := by rw [y3, hn]; omega
  have hqk : q.k = 1 ∨ q.k = 3 := by
    rw [y4]
    rcases isOp_kind hy with hk | hk | hk
    · exact absurd hk hky
    · exact .inr hk
    · exact .inl hk
  have mq : mayP l q.p = 0 := by rw [y6]; exact fy.2.2.2.2
  have mqc := mayP_zero mq
  -- what the under reader gave
  have key : (restU X a = unitsO o ++ restU X' a' ∨ (X = [] ∧ X' = [] ∧ a' = 0 ∧ o = opR n [])) ∧ isOp o ∧ (unitsO o).length = n ∧ (o.k = 1 ∨ o.k = 2) ∧ mayP l o.p = 0 ∧ (∀ x ∈ o.r, mayR x = true) ∧ (mayS l o.s = 0) ∧ X'.length ≤ X.length ∧ (n = longR X a → X ≠ [] → X'.length + 1 = X.length) ∧ goodO l X' := by
    cases X with
    | nil =>
      obtain ⟨e1, e2, e3⟩ := tx
      subst e1 e2 e3
      refine ⟨.inr ⟨rfl, rfl, rfl, rfl⟩, isOp_opR (by omega), by rw [unitsO_R, List.length_replicate]; omega, .inl rfl, (by simp [opR, mayP, riseC, rise]), fun x hx => (by cases hx), (by simp [opR, mayS, riseA, rise]), Nat.le_refl _, fun _ hh => absurd rfl hh, fun z hz => (by cases hz)⟩
    | cons x s =>
      obtain ⟨x0, x1, x2, x3⟩ := hx x s rfl
      obtain ⟨g1, g2, g3, g4, g5, g6⟩ := took_units x0 x1 hn1 tx
      obtain ⟨k1, k2, k3⟩ := took_len tx
      have fx := one_facts (h.gx x (by simp))
      have hnl : n ≤ lenO x.o - a := by rw [hn]; exact Nat.min_le_left _ _
      refine ⟨.inl g1, g2, by rw [g3]; omega, ?_, by rw [g6]; exact fx.2.2.2.2, ?_, by rw [g5]; exact fx.2.2.2.1, k1, fun hh _ => k2 (by rw [hh]; exact Nat.le_refl _) x1, fun z hz => h.gx z (k3 z hz)⟩
      · rw [g4]
        rcases isOp_kind x0 with hk | hk | hk
        · exact .inr hk
        · exact absurd hk x3
        · exact .inl hk
      · intro r hr
        have hk2 : x.o.k = 2 := by
          rcases isOp_kind g2 with hk | hk | hk
          · rw [← g4]; exact hk
          · obtain ⟨e, _⟩ := opD_of g2 hk; rw [e] at hr; cases hr
          · obtain ⟨e, _⟩ := opR_of g2 hk; rw [e] at hr; cases hr
        refine runes_of (h.gx x (by simp)) hk2 r ?_
        have e := tx.1
        rw [e] at hr
        unfold cutO at hr
        rw [if_pos hk2] at hr
        exact List.mem_of_mem_drop (List.mem_of_mem_take hr)
  obtain ⟨hX, ho, hol, hok, mo, mr, ms, xl, xd, gx'⟩ := key
  have moc := mayP_zero mo
  have hset : ∀ x ∈ o.r, (actC l ⟨x, o.s⟩ q.p).s.length ≤ 64 := fun x hx => (mayS_zero (stay_apply hl ms (stay_filter _ mq))).1
  have hcl : (composeP o.p q.p).length ≤ 64 := (mayP_zero (stay_comp hl mo mq)).1
  have hdec : X'.length + Y'.length < X.length + (y :: t).length := by
    rcases Nat.le_total (longR X a) (lenO y.o - c) with hle | hle
    · have hnx : n = longR X a := by rw [hn]; exact Nat.min_eq_left hle
      by_cases hXn : X = []
      · have : n = lenO y.o - c := by
          subst hXn
          have : longR [] a = 536870912 := rfl
          rw [this] at hle hnx; omega
        have := ly2 (by omega) hc
        omega
      · have := xd hnx hXn
        omega
    · have hny : n = lenO y.o - c := by rw [hn]; exact Nat.min_eq_right hle
      have := ly2 (by omega) hc
      omega
  have gy' : goodO l Y' := fun z hz => h.gy z (ly3 z hz)
  have heq := h.eq
  have hk := h.k
  rw [y1, insN_append] at hk
  rw [y1] at heq
  -- the units told
  have main : ∃ W K', Told (bothM l m o q) (us ++ W) ∧ MkB (bothM l m o q) K' 64 ∧ us ++ W ++ compU l (restU X' a') (restU Y' c') = T ∧ K' + 2 * (X'.length + Y'.length) + insN (restU X' a') + insN (restU Y' c') ≤ P ∧ K + o.r.length ≤ P := by
    have hXr : ∀ W, (compU l (restU X a) (unitsO q ++ restU Y' c') = W ++ compU l (restU X' a') (restU Y' c')) → us ++ W ++ compU l (restU X' a') (restU Y' c') = T := fun W hW => by
      rw [hW] at heq; rw [List.append_assoc]; exact heq
    have hulen : ∀ W, us ++ W ++ compU l (restU X' a') (restU Y' c') = T → us.length + W.length ≤ T.length := fun W hW => by
      have := congrArg List.length hW
      rw [List.length_append, List.length_append] at this; omega
    rcases hok with ok1 | ok2
    · have er := unitsO_ret ok1
      rw [hol] at er
      have hor : o.r = [] := by obtain ⟨e, _⟩ := opR_of ho ok1; rw [e]; rfl
      have hio : insN (unitsO o) = 0 := by rw [er]; exact insN_rets _ _
      have hkX : K + 2 * (X'.length + Y'.length) + 2 + insN (restU X' a') + insN (restU Y' c') ≤ P := by
        rcases hX with hX | ⟨rfl, rfl, rfl, _⟩
        · rw [hX, insN_append] at hk; omega
        · have e0 := h0 rfl
          subst e0
          rw [restU_nil] at hk ⊢
          omega
      rcases hqk with q1 | q3
      · have eq := unitsO_ret q1
        rw [hyl] at eq
        have hm : bothM l m o q = mkRetain m q.n (composeP o.p q.p) := by unfold bothM; rw [if_pos ok1, if_pos q1]
        have hW : compU l (restU X a) (unitsO q ++ restU Y' c') = List.replicate n (.ret (composeP o.p q.p)) ++ compU l (restU X' a') (restU Y' c') := by
          rcases hX with hX | ⟨rfl, rfl, rfl, rfl⟩
          · rw [hX, er, eq, comp_retret]
          · have e0 := h0 rfl
            subst e0
            rw [restU_nil, eq, comp_nilret]; rfl
        have hT2 := hXr _ hW
        have hl2 := hulen _ hT2
        rw [List.length_replicate] at hl2
        have hqn : q.n.toNat = n := by
          have := congrArg List.length (show unitsO q = List.replicate q.n.toNat (.ret q.p) by unfold unitsO; rw [if_neg (by rw [q1]; decide), if_pos q1])
          rw [hyl, List.length_replicate] at this; exact this.symm
        have hqn1 := (opR_of y2 q1).2
        refine ⟨_, K + 2, ?_, ?_, hT2, by omega, by rw [hor]; simp; omega⟩
        · rw [hm, ← hqn]
          exact h.told.retain q.n _ (by omega)
        · rw [hm]; exact h.b.retain q.n hcl
      · have eq := unitsO_del q3
        rw [hyl] at eq
        have hm : bothM l m o q = mkDelete m q.n := by unfold bothM; rw [if_pos ok1, if_neg (by rw [q3]; decide)]
        have hW : compU l (restU X a) (unitsO q ++ restU Y' c') = List.replicate n .del ++ compU l (restU X' a') (restU Y' c') := by
          rcases hX with hX | ⟨rfl, rfl, rfl, rfl⟩
          · rw [hX, er, eq, comp_retdel]
          · have e0 := h0 rfl
            subst e0
            rw [restU_nil, eq, comp_nildel]
        have hT2 := hXr _ hW
        have hl2 := hulen _ hT2
        rw [List.length_replicate] at hl2
        have hqn : q.n.toNat = n := by
          have := congrArg List.length (show unitsO q = List.replicate q.n.toNat .del by unfold unitsO; rw [if_neg (by rw [q3]; decide), if_neg (by rw [q3]; decide)])
          rw [hyl, List.length_replicate] at this; exact this.symm
        have hqn1 := (opD_of y2 q3).2
        refine ⟨_, K, ?_, ?_, hT2, by omega, by rw [hor]; simp; omega⟩
        · rw [hm, ← hqn]
          exact h.told.delete q.n (by omega) (by omega)
        · rw [hm]; exact h.b.delete q.n
    · have er := unitsO_two ok2
      have hol' : o.r.length = n := by rw [er, List.length_map] at hol; exact hol
      have hX' : restU X a = unitsO o ++ restU X' a' := by
        rcases hX with hX | ⟨_, _, _, rfl⟩
        · exact hX
        · exact absurd ok2 (by show ¬ (1 : Int) = 2; decide)
      rw [hX', insN_append, er, insN_ins] at hk
      rcases hqk with q1 | q3
      · have eq := unitsO_ret q1
        rw [hyl, ← hol'] at eq
        have hm : bothM l m o q = insM l o.s q.p m o.r := by unfold bothM; rw [if_neg (by rw [ok2]; decide), if_pos q1]
        have hW : compU l (restU X a) (unitsO q ++ restU Y' c') = o.r.map (fun x => Un.ins x (actC l ⟨x, o.s⟩ q.p).s) ++ compU l (restU X' a') (restU Y' c') := by
          rw [hX', er, eq, comp_insret]
        refine ⟨_, K + o.r.length, by rw [hm]; exact insM_told o.r h.told, by rw [hm]; exact insM_B o.r h.b hset, hXr _ hW, by omega, by omega⟩
      · have eq := unitsO_del q3
        rw [hyl, ← hol'] at eq
        have hm : bothM l m o q = m := by unfold bothM; rw [if_neg (by rw [ok2]; decide), if_neg (by rw [q3]; decide)]
        have hW : compU l (restU X a) (unitsO q ++ restU Y' c') = [] ++ compU l (restU X' a') (restU Y' c') := by
          rw [hX', er, eq, comp_gone]; rfl
        have := hXr _ hW
        refine ⟨[], K, by rw [hm, List.append_nil]; exact h.told, by rw [hm]; exact h.b, this, by omega, by omega⟩
  obtain ⟨W, K', m1, m2, m3, m4, m5⟩ := main
  exact ⟨⟨us ++ W, K', ⟨m1, m2, m4, m3, gx', gy'⟩, hdec⟩, hok, m5, (mayS_zero ms).1, moc.1, mqc.1, hcl, hset⟩
end Go.Proofs.YtfnkjcodcoehcaaGreatDoor
namespace Go.Proofs.YtfnkjcodcoehcaaGreatDoor
/-- why one of two deltas may not be -/
def mayC (l : List Ky) (x y : List OpS) : Int := if mayO l x = 0 ∨ mayO l y = 3 then mayO l y else mayO l x
end Go.Proofs.YtfnkjcodcoehcaaGreatDoor
namespace Go.Proofs.YtfnkjcodcoehcaaGreatDoor
set_option linter.unusedVariables false
set_option linter.unusedSimpArgs false

theorem nf_makes (us : List Un) : makesU (nf us) ≤ makesU us := by
  obtain ⟨k, hk⟩ := trim_pre (canon us)
  have h1 := congrArg makesU hk
  rw [makesU_append, canon_makes] at h1
  show makesU (trim (canon us)) ≤ _
  omega
/-- how much made ops take and make -/
theorem made_sums {l : List Ky} {x : List OpS} {us : List Un} (hx : osOf x = mkU us) (hm : ∀ u ∈ us, mU l u) (ht : takesU us ≤ 536870912) (hk : makesU us ≤ 536870912) (hb : x.length ≤ 1048576) : takesP x ≤ 536870912 ∧ makesP x ≤ 536870912 ∧ takesP x = takesU (nf us) ∧ makesP x = makesU (nf us) := by
  have hi := mkU_isOp hx
  have hu := mkU_units hx
  have h1 := nf_takes us
  have h2 := nf_makes us
  have g : goodO l x := units_good hi (by rw [hu]; exact nf_all (P := mU l) trivial hm) (by rw [hu]; omega) (by rw [hu]; omega)
  obtain ⟨s1, s2⟩ := sums_units x hi
  rw [hu] at s1 s2
  rw [takes_sum g hb, makes_sum g hb]
  omega
end Go.Proofs.YtfnkjcodcoehcaaGreatDoor
