/- Merged texts: Tran22, ComStep2, TrStep, TrLaws, Small20, Takes15. -/
import Derived.Test.YtfnkjcodcoehcaaGreatDoorV22
import Derived.Test.YtfnkjcodcoehcaaGreatDoorV23
import Derived.Test.YtfnkjcodcoehcaaGreatDoorV20
import Derived.Test.YtfnkjcodcoehcaaGreatDoorV11
import Derived.Test.YtfnkjcodcoehcaaGreatDoorV14
import Derived.Test.YtfnkjcodcoehcaaGreatDoorV16
import Derived.Test.YtfnkjcodcoehcaaGreatDoorV18
import Derived.Test.YtfnkjcodcoehcaaGreatDoorV6
namespace Go.Proofs.YtfnkjcodcoehcaaGreatDoor
open Go.RowKit
theorem tran22_any {w : World} {A B : Option Addr} {n c k d : Nat} {l : List Ky} {x y : List OpS} (f : Bool) (h1 : OpsC w A n c x) (h2 : OpsC w B k d y) (m1 : mayO l x = 0) (m2 : mayO l y = 0) (z1 : szN x ≤ 100000) (z2 : szN y ≤ 100000) (u1 : (units (osOf x)).length ≤ 100000) (u2 : (units (osOf y)).length ≤ 100000) :
    Calls Tryz.prog 52 #[.slice A n c, .slice B k d, .bool f] w (NewOps (mkU (traU f (nf (units (osOf x))) (nf (units (osOf y))))) w) := by
  cases f with
  | true => exact tran22_true h1 h2 m1 m2 z1 z2 u1 u2
  | false => exact tran22_false h1 h2 m1 m2 z1 z2 u1 u2
set_option linter.unusedVariables false
set_option linter.unusedSimpArgs false

theorem unitsO_two {o : Opd} (h : o.k = 2) : unitsO o = o.r.map (fun r => Un.ins r o.s) := by unfold unitsO; rw [if_pos h]
theorem unitsO_del {o : Opd} (h : o.k = 3) : unitsO o = List.replicate (unitsO o).length .del := by
  have e : unitsO o = List.replicate o.n.toNat .del := by unfold unitsO; rw [if_neg (by rw [h]; decide), if_neg (by rw [h]; decide)]
  rw [e, List.length_replicate]
theorem unitsO_ret {o : Opd} (h : o.k = 1) : unitsO o = List.replicate (unitsO o).length (.ret o.p) := by
  have e : unitsO o = List.replicate o.n.toNat (.ret o.p) := by unfold unitsO; rw [if_neg (by rw [h]; decide), if_pos h]
  rw [e, List.length_replicate]

theorem tra_insX (f : Bool) (A B : List Un) (s : List At) (v : Un) (hv : f = true ∨ isIns v = false) : ∀ r : List Int, traU f (r.map (fun r => Un.ins r s) ++ A) (v :: B) = List.replicate r.length (.ret []) ++ traU f A (v :: B)
  | [] => rfl
  | a :: r => by
    rw [List.length_cons, List.replicate_succ]
    show traU f (.ins a s :: (r.map (fun r => Un.ins r s) ++ A)) (v :: B) = _
    have e : traU f (.ins a s :: (r.map (fun r => Un.ins r s) ++ A)) (v :: B) = .ret [] :: traU f (r.map (fun r => Un.ins r s) ++ A) (v :: B) := by
      cases v with
      | ins r' s' =>
        rcases hv with rfl | hv
        · exact traU_ii _ B a s r' s'
        · cases hv
      | del => exact traU_id f _ B a s
      | ret q => exact traU_ir f _ B a s q
    rw [e, tra_insX f A B s v hv r]; rfl
theorem tra_insY (f : Bool) (A B : List Un) (s : List At) (hA : f = false ∨ ∀ u t, A = u :: t → isIns u = false) : ∀ r : List Int, traU f A (r.map (fun r => Un.ins r s) ++ B) = r.map (fun r => Un.ins r s) ++ traU f A B
  | [] => rfl
  | a :: r => by
    show traU f A (.ins a s :: (r.map (fun r => Un.ins r s) ++ B)) = _
    have e : traU f A (.ins a s :: (r.map (fun r => Un.ins r s) ++ B)) = .ins a s :: traU f A (r.map (fun r => Un.ins r s) ++ B) := by
      rcases hA with rfl | hA
      · exact traU_fi A _ a s
      · cases A with
        | nil => exact traU_ni f _ a s
        | cons u t =>
          cases u with
          | ins r' s' => have := hA _ _ rfl; cases this
          | del => exact traU_di f t _ a s
          | ret p => exact traU_ri f t _ a s p
    rw [e, tra_insY f A B s hA r]; rfl
theorem tra_gone (f : Bool) (A B : List Un) (v : Un) (hv : v = .del ∨ ∃ q, v = .ret q) : ∀ k, traU f (List.replicate k .del ++ A) (List.replicate k v ++ B) = traU f A B
  | 0 => rfl
  | k + 1 => by
    rw [List.replicate_succ, List.replicate_succ]
    show traU f (.del :: (List.replicate k .del ++ A)) (v :: (List.replicate k v ++ B)) = _
    rcases hv with rfl | ⟨q, rfl⟩
    · rw [traU_dd, tra_gone f A B _ (.inl rfl) k]
    · rw [traU_dr, tra_gone f A B _ (.inr ⟨q, rfl⟩) k]
theorem tra_retdel (f : Bool) (A B : List Un) (p : List Ch) : ∀ k, traU f (List.replicate k (.ret p) ++ A) (List.replicate k .del ++ B) = List.replicate k .del ++ traU f A B
  | 0 => rfl
  | k + 1 => by
    rw [List.replicate_succ, List.replicate_succ]
    show traU f (.ret p :: (List.replicate k (.ret p) ++ A)) (.del :: (List.replicate k .del ++ B)) = _
    rw [traU_rd, tra_retdel f A B p k]; rfl
theorem tra_retret (f : Bool) (A B : List Un) (p q : List Ch) : ∀ k, traU f (List.replicate k (.ret p) ++ A) (List.replicate k (.ret q) ++ B) = List.replicate k (.ret (pastP f q p)) ++ traU f A B
  | 0 => rfl
  | k + 1 => by
    rw [List.replicate_succ, List.replicate_succ, List.replicate_succ]
    show traU f (.ret p :: (List.replicate k (.ret p) ++ A)) (.ret q :: (List.replicate k (.ret q) ++ B)) = _
    rw [traU_rr, tra_retret f A B p q k]; rfl
def readO (l : List Ky) (o : Opd) : Prop := isOp o ∧ lenO o ≤ 536870912 ∧ mayS l o.s = 0 ∧ mayP l o.p = 0
structure TQ (l : List Ky) (f : Bool) (T : List Un) (P : Nat) (X Y : List OpS) (m : Mk) (us : List Un) (K : Nat) : Prop where
  told : Told m us
  b : MkB m K 64
  k : K + 2 * (X.length + Y.length) + insN (units (osOf X)) + insN (units (osOf Y)) ≤ P
  eq : us ++ traU f (units (osOf X)) (units (osOf Y)) = T
  gx : ∀ o ∈ X, readO l o.o
  gy : ∀ o ∈ Y, readO l o.o
def tookT (X : List OpS) (n : Nat) (o : OpS) (X' : List OpS) : Prop :=
  match X with
  | [] => o.o = opR n [] ∧ X' = []
  | x :: t => o = { x with o := { x.o with n := (n : Int) } } ∧ ((x.o.n = (n : Int) ∧ X' = t) ∨ ((n : Int) < x.o.n ∧ X' = { x with o := { x.o with n := x.o.n - n } } :: t))
theorem units_osCons (x : OpS) (t : List OpS) : units (osOf (x :: t)) = unitsO x.o ++ units (osOf t) := rfl
theorem part_op {o : Opd} (h : isOp o) (hk : o.k ≠ 2) {n : Int} (hn : 1 ≤ n) : isOp { o with n := n } ∧ (o.k = 3 → unitsO { o with n := n } = List.replicate n.toNat .del) ∧ (o.k = 1 → unitsO { o with n := n } = List.replicate n.toNat (.ret o.p)) ∧ lenO { o with n := n } = n.toNat := by
  rcases isOp_kind h with h2 | h3 | h1
  · exact absurd h2 hk
  · obtain ⟨e, _⟩ := opD_of h h3
    refine ⟨?_, fun _ => ?_, fun h1 => (by rw [h3] at h1; cases h1), ?_⟩
    · rw [e]; exact isOp_opD hn
    · rw [e]; rfl
    · rw [e]; rfl
  · obtain ⟨e, _⟩ := opR_of h h1
    refine ⟨?_, fun h3 => (by rw [h1] at h3; cases h3), fun _ => ?_, ?_⟩
    · rw [e]; exact isOp_opR hn
    · rw [e]; rfl
    · rw [e]; rfl
theorem tookT_units {l : List Ky} {x o : OpS} {t X' : List OpS} {n : Nat} (h : ∀ z ∈ x :: t, readO l z.o) (hk : x.o.k ≠ 2) (hn : 1 ≤ n) (ht : tookT (x :: t) n o X') :
    units (osOf (x :: t)) = unitsO o.o ++ units (osOf X') ∧ isOp o.o ∧ (unitsO o.o).length = n ∧ o.o.k = x.o.k ∧ o.o.p = x.o.p ∧ o.o.n = (n : Int) ∧ (∀ z ∈ X', readO l z.o) ∧ X'.length ≤ (x :: t).length ∧ (x.o.n = (n : Int) → X'.length + 1 = (x :: t).length) := by
  obtain ⟨e, hc⟩ := ht
  subst e
  obtain ⟨x1, x2, x3, x4⟩ := h x (by simp)
  obtain ⟨p1, p2, p3, p4⟩ := part_op x1 hk (n := (n : Int)) (by omega)
  have hl : (unitsO ({ x with o := { x.o with n := (n : Int) } } : OpS).o).length = n := by
    rw [lenO_units p1, p4]; omega
  have hx : unitsO x.o = List.replicate x.o.n.toNat (if x.o.k = 3 then .del else .ret x.o.p) := by
    rcases isOp_kind x1 with h2 | h3 | h1
    · exact absurd h2 hk
    · unfold unitsO; rw [if_neg hk, if_neg (by rw [h3]; decide), if_pos h3]
    · unfold unitsO; rw [if_neg hk, if_pos h1, if_neg (by rw [h1]; decide)]
  have hy : ∀ m : Int, 1 ≤ m → unitsO { x.o with n := m } = List.replicate m.toNat (if x.o.k = 3 then .del else .ret x.o.p) := fun m hm => by
    obtain ⟨q1, q2, q3, q4⟩ := part_op x1 hk (n := m) hm
    rcases isOp_kind x1 with h2 | h3 | h1
    · exact absurd h2 hk
    · rw [if_pos h3]; exact q2 h3
    · rw [if_neg (by rw [h1]; decide)]; exact q3 h1
  refine ⟨?_, p1, hl, rfl, rfl, rfl, ?_, ?_, ?_⟩
  · rcases hc with ⟨h1, rfl⟩ | ⟨h1, rfl⟩
    · rw [units_osCons]
      have : ({ x with o := { x.o with n := (n : Int) } } : OpS).o = x.o := by show ({ x.o with n := (n : Int) } : Opd) = x.o; rw [← h1]
      rw [this]
    · rw [units_osCons, units_osCons]
      show unitsO x.o ++ _ = unitsO { x.o with n := (n : Int) } ++ (unitsO { x.o with n := x.o.n - n } ++ _)
      rw [hx, hy _ (by omega), hy _ (by omega), ← List.append_assoc, List.replicate_append_replicate]
      congr 2
      omega
  · intro z hz
    rcases hc with ⟨h1, rfl⟩ | ⟨h1, rfl⟩
    · exact h z (List.mem_cons_of_mem _ hz)
    · rcases List.mem_cons.1 hz with rfl | hz
      · obtain ⟨q1, q2, q3, q4⟩ := part_op x1 hk (n := x.o.n - n) (by omega)
        refine ⟨q1, ?_, x3, x4⟩
        show lenO { x.o with n := x.o.n - n } ≤ _
        rw [q4]
        have : lenO x.o = x.o.n.toNat := by
          obtain ⟨r1, r2, r3, r4⟩ := part_op x1 hk (n := x.o.n) (by omega)
          exact r4
        omega
      · exact h z (List.mem_cons_of_mem _ hz)
  · rcases hc with ⟨h1, rfl⟩ | ⟨h1, rfl⟩
    · simp
    · exact Nat.le_refl _
  · intro he
    rcases hc with ⟨h1, rfl⟩ | ⟨h1, rfl⟩
    · rfl
    · omega
theorem units_head {l : List Ky} {y : OpS} {t : List OpS} (h : ∀ z ∈ y :: t, readO l z.o) : ∃ v B, units (osOf (y :: t)) = v :: B ∧ (isIns v = true ↔ y.o.k = 2) := by
  obtain ⟨h1, _⟩ := h y (by simp)
  have hl := lenO_units h1
  obtain ⟨h2, _⟩ := lenO_of h1
  rw [units_osCons]
  cases hu : unitsO y.o with
  | nil => rw [hu] at hl; simp at hl; omega
  | cons v B =>
    refine ⟨v, B ++ units (osOf t), rfl, ?_⟩
    have hv : v ∈ unitsO y.o := by rw [hu]; simp
    rcases isOp_kind h1 with k | k | k
    · rw [unitsO_two k] at hv
      obtain ⟨r, _, rfl⟩ := List.mem_map.1 hv
      simp [isIns, k]
    · rw [unitsO_del k] at hv
      rw [(List.mem_replicate.1 hv).2]
      simp [isIns, k]
    · rw [unitsO_ret k] at hv
      rw [(List.mem_replicate.1 hv).2]
      simp [isIns, k]
theorem TQ.insX {l : List Ky} {f : Bool} {T : List Un} {P : Nat} {x y : OpS} {s t : List OpS} {m : Mk} {us : List Un} {K : Nat} (h : TQ l f T P (x :: s) (y :: t) m us K) (hk : x.o.k = 2) (hy : f = true ∨ y.o.k ≠ 2) (hT : T.length ≤ 4000000000) :
    ∃ us', TQ l f T P s (y :: t) (mkRetain m (x.o.r.length : Int) []) us' (K + 2) ∧ K + 2 ≤ P := by
  obtain ⟨h1, _⟩ := h.gx x (by simp)
  have e1 := unitsO_two hk
  obtain ⟨v, B, hv, hvi⟩ := units_head h.gy
  have heq := h.eq
  rw [units_osCons, e1, hv, tra_insX f _ _ _ _ (by
    rcases hy with hy | hy
    · exact .inl hy
    · exact .inr (by cases hi : isIns v with
        | false => rfl
        | true => exact absurd (hvi.1 hi) hy)), ← hv, ← List.append_assoc] at heq
  have hll := congrArg List.length heq
  rw [List.length_append, List.length_append, List.length_replicate] at hll
  have hkk := h.k
  rw [units_osCons, insN_append, e1, insN_ins, List.length_cons] at hkk
  refine ⟨_, ⟨?_, h.b.retain _ (Nat.zero_le _), by omega, heq, fun o ho => h.gx o (List.mem_cons_of_mem _ ho), h.gy⟩, by omega⟩
  have := h.told.retain (x.o.r.length : Int) [] (by omega)
  rwa [Int.toNat_natCast] at this
theorem TQ.insY {l : List Ky} {f : Bool} {T : List Un} {P : Nat} {X t : List OpS} {y : OpS} {m : Mk} {us : List Un} {K : Nat} (h : TQ l f T P X (y :: t) m us K) (hk : y.o.k = 2) (hX : f = false ∨ ∀ x s, X = x :: s → x.o.k ≠ 2) :
    ∃ us', TQ l f T P X t (mkInsert m y.o.r y.o.s) us' (K + y.o.r.length) ∧ K + y.o.r.length ≤ P ∧ y.o.s.length ≤ 64 := by
  have hy := h.gy y (by simp)
  have e1 := unitsO_two hk
  have heq := h.eq
  have hs := (mayS_zero hy.2.2.1).1
  rw [units_osCons, e1, tra_insY f _ _ _ (by
    rcases hX with hX | hX
    · exact .inl hX
    · refine .inr fun u t' hu => ?_
      cases X with
      | nil => cases hu
      | cons x s =>
        obtain ⟨v, B, hv, hvi⟩ := units_head h.gx
        rw [hv] at hu
        injection hu with hu _
        subst hu
        cases hi : isIns v with
        | false => rfl
        | true => exact absurd (hvi.1 hi) (hX x s rfl)), ← List.append_assoc] at heq
  have hkk := h.k
  rw [units_osCons, insN_append, e1, insN_ins, List.length_cons] at hkk
  exact ⟨_, ⟨h.told.insert _ _, h.b.insert _ hs, by omega, heq, h.gx, fun o ho => h.gy o (List.mem_cons_of_mem _ ho)⟩, by omega, hs⟩
def overM (f : Bool) (m : Mk) (n : Nat) (o q : Opd) : Mk :=
  if o.k = 3 then m else if q.k = 3 then mkDelete m n else mkRetain m n (pastP f q.p o.p)
theorem mayP_nil0 (l : List Ky) : mayP l [] = 0 := by simp [mayP, riseC, rise]
theorem TQ.both {l : List Ky} {f : Bool} {T : List Un} {P : Nat} {X t X' Y' : List OpS} {y o q : OpS} {n : Nat} {m : Mk} {us : List Un} {K : Nat} (h : TQ l f T P X (y :: t) m us K)
    (hX : ∀ x s, X = x :: s → x.o.k ≠ 2 ∧ (n : Int) ≤ x.o.n) (hy : y.o.k ≠ 2) (hn : 1 ≤ n) (hny : (n : Int) ≤ y.o.n) (hmin : y.o.n = (n : Int) ∨ ∃ x s, X = x :: s ∧ x.o.n = (n : Int))
    (tx : tookT X n o X') (ty : tookT (y :: t) n q Y') (hT : T.length ≤ 4000000000) :
    ∃ us' K', TQ l f T P X' Y' (overM f m n o.o q.o) us' K' ∧ X'.length + Y'.length < X.length + (y :: t).length ∧ (o.o.k = 1 ∨ o.o.k = 3) ∧ (q.o.k = 1 ∨ q.o.k = 3) ∧ K + 2 ≤ P ∧ o.o.p.length ≤ 64 ∧ q.o.p.length ≤ 64 ∧ (pastP f q.o.p o.o.p).length ≤ 64 := by
  obtain ⟨y1, y2, y3, y4, y5, y6, y7, y8, y9⟩ := tookT_units h.gy hy hn ty
  have hyr := h.gy y (by simp)
  have mq : mayP l q.o.p = 0 := by rw [y5]; exact hyr.2.2.2
  have hqk : q.o.k = 1 ∨ q.o.k = 3 := by
    rw [y4]
    rcases isOp_kind hyr.1 with hk | hk | hk
    · exact absurd hk hy
    · exact .inr hk
    · exact .inl hk
  have key : (units (osOf X) = unitsO o.o ++ units (osOf X') ∨ (X = [] ∧ X' = [] ∧ o.o = opR n [])) ∧ (unitsO o.o).length = n ∧ (o.o.k = 1 ∨ o.o.k = 3) ∧ mayP l o.o.p = 0 ∧ (∀ z ∈ X', readO l z.o) ∧ X'.length ≤ X.length ∧ (∀ x s, X = x :: s → x.o.n = (n : Int) → X'.length + 1 = X.length) := by
    cases X with
    | nil =>
      obtain ⟨e1, e2⟩ := tx
      subst e2
      refine ⟨.inr ⟨rfl, rfl, e1⟩, by rw [e1, unitsO_R, List.length_replicate]; omega, .inl (by rw [e1]; rfl), by rw [e1]; exact mayP_nil0 l, fun z hz => (by cases hz), Nat.le_refl _, fun x s e => by cases e⟩
    | cons x s =>
      obtain ⟨x1, x2⟩ := hX x s rfl
      obtain ⟨z1, z2, z3, z4, z5, z6, z7, z8, z9⟩ := tookT_units h.gx x1 hn tx
      have hxr := h.gx x (by simp)
      refine ⟨.inl z1, z3, ?_, by rw [z5]; exact hxr.2.2.2, z7, z8, fun x' s' e => by injection e with e1 _; subst e1; exact z9⟩
      rw [z4]
      rcases isOp_kind hxr.1 with hk | hk | hk
      · exact absurd hk x1
      · exact .inr hk
      · exact .inl hk
  obtain ⟨hXu, hol, hok, mo, gx', xl, xd⟩ := key
  have hdec : X'.length + Y'.length < X.length + (y :: t).length := by
    rcases hmin with hm | ⟨x, s, e, hm⟩
    · have := y9 hm; omega
    · have := xd x s e hm; omega
  have hpast : mayP l (pastP f q.o.p o.o.p) = 0 := mayP_past mq
  have heq := h.eq
  rw [y1] at heq
  have hkk := h.k
  rw [y1, insN_append] at hkk
  have hcnt : K + 2 * (X'.length + Y'.length) + 2 + insN (units (osOf X')) + insN (units (osOf Y')) ≤ P := by
    have : insN (units (osOf X')) ≤ insN (units (osOf X)) := by
      rcases hXu with hX | ⟨rfl, rfl, _⟩
      · rw [hX, insN_append]; omega
      · exact Nat.le_refl _
    omega
  have main : ∃ W, Told (overM f m n o.o q.o) (us ++ W) ∧ us ++ W ++ traU f (units (osOf X')) (units (osOf Y')) = T := by
    have hW : ∀ W, traU f (units (osOf X)) (unitsO q.o ++ units (osOf Y')) = W ++ traU f (units (osOf X')) (units (osOf Y')) → us ++ W ++ traU f (units (osOf X')) (units (osOf Y')) = T ∧ us.length + W.length ≤ T.length := fun W hW => by
      rw [hW, ← List.append_assoc] at heq
      refine ⟨heq, ?_⟩
      have := congrArg List.length heq
      rw [List.length_append, List.length_append] at this; omega
    have hone : ∃ v, unitsO q.o = List.replicate n v ∧ (v = .del ∨ ∃ q, v = .ret q) := by
      rcases hqk with k | k
      · have e := unitsO_ret k; rw [y3] at e; exact ⟨_, e, .inr ⟨_, rfl⟩⟩
      · have e := unitsO_del k; rw [y3] at e; exact ⟨_, e, .inl rfl⟩
    rcases hok with ok | ok
    · have er := unitsO_ret ok
      rw [hol] at er
      have hn3 : ¬ o.o.k = 3 := by rw [ok]; decide
      rcases hqk with k | k
      · have eq := unitsO_ret k
        rw [y3] at eq
        have hm : overM f m n o.o q.o = mkRetain m n (pastP f q.o.p o.o.p) := by unfold overM; rw [if_neg hn3, if_neg (by rw [k]; decide)]
        have hh : traU f (units (osOf X)) (unitsO q.o ++ units (osOf Y')) = List.replicate n (.ret (pastP f q.o.p o.o.p)) ++ traU f (units (osOf X')) (units (osOf Y')) := by
          rcases hXu with hX | ⟨rfl, rfl, e⟩
          · rw [hX, er, eq, tra_retret]
          · rw [e, eq, show units (osOf []) = [] from rfl, tra_none, tra_none]
            show _ = List.replicate n (Un.ret (pastP f q.o.p [])) ++ _
            rw [past_nil]
        obtain ⟨h1, h2⟩ := hW _ hh
        rw [List.length_replicate] at h2
        refine ⟨_, ?_, h1⟩
        rw [hm]
        have := h.told.retain (n : Int) (pastP f q.o.p o.o.p) (by omega)
        rwa [Int.toNat_natCast] at this
      · have eq := unitsO_del k
        rw [y3] at eq
        have hm : overM f m n o.o q.o = mkDelete m n := by unfold overM; rw [if_neg hn3, if_pos k]
        have hh : traU f (units (osOf X)) (unitsO q.o ++ units (osOf Y')) = List.replicate n .del ++ traU f (units (osOf X')) (units (osOf Y')) := by
          rcases hXu with hX | ⟨rfl, rfl, e⟩
          · rw [hX, er, eq, tra_retdel]
          · rw [eq, show units (osOf []) = [] from rfl, tra_none, tra_none]
        obtain ⟨h1, h2⟩ := hW _ hh
        rw [List.length_replicate] at h2
        refine ⟨_, ?_, h1⟩
        rw [hm]
        have := h.told.delete (n : Int) (by omega) (by omega)
        rwa [Int.toNat_natCast] at this
    · have er := unitsO_del ok
      rw [hol] at er
      obtain ⟨v, hv, hv2⟩ := hone
      have hm : overM f m n o.o q.o = m := by unfold overM; rw [if_pos ok]
      have hX : units (osOf X) = unitsO o.o ++ units (osOf X') := by
        rcases hXu with hX | ⟨_, _, e⟩
        · exact hX
        · rw [e] at ok; cases ok
      have hh : traU f (units (osOf X)) (unitsO q.o ++ units (osOf Y')) = [] ++ traU f (units (osOf X')) (units (osOf Y')) := by
        rw [hX, er, hv, tra_gone f _ _ v hv2]; rfl
      obtain ⟨h1, h2⟩ := hW _ hh
      refine ⟨[], ?_, h1⟩
      rw [hm, List.append_nil]; exact h.told
  obtain ⟨W, m1, m2⟩ := main
  have hB : MkB (overM f m n o.o q.o) (K + 2) 64 := by
    unfold overM
    split
    · exact h.b.mono (by omega) (Nat.le_refl _)
    · split
      · exact (h.b.delete _).mono (by omega) (Nat.le_refl _)
      · exact h.b.retain _ (mayP_zero hpast).1
  exact ⟨us ++ W, K + 2, ⟨m1, hB, by omega, m2, gx', y7⟩, hdec, hok, hqk, by omega, (mayP_zero mo).1, (mayP_zero mq).1, (mayP_zero hpast).1⟩
theorem TQ.end_ {l : List Ky} {f : Bool} {T : List Un} {P : Nat} {X : List OpS} {m : Mk} {us : List Un} {K : Nat} (h : TQ l f T P X [] m us K) : us = T := by
  have := h.eq
  rw [show units (osOf []) = [] from rfl, traU_nil, List.append_nil] at this
  exact this

def runesU : List Un → List Int
  | [] => []
  | .ins r _ :: us => r :: runesU us
  | _ :: us => runesU us
def delsU : List Un → Nat
  | [] => 0
  | .del :: us => delsU us + 1
  | _ :: us => delsU us
theorem runesU_append (a b : List Un) : runesU (a ++ b) = runesU a ++ runesU b := by
  induction a with
  | nil => rfl
  | cons u a ih => cases u <;> simp [runesU, ih]
theorem delsU_append (a b : List Un) : delsU (a ++ b) = delsU a + delsU b := by
  induction a with
  | nil => simp [delsU]
  | cons u a ih => cases u <;> simp [delsU, ih] <;> omega
theorem runesU_rets (k : Nat) (p : List Ch) : runesU (List.replicate k (.ret p)) = [] := by induction k with | zero => rfl | succ k ih => rw [List.replicate_succ]; exact ih
theorem runesU_dels (k : Nat) : runesU (List.replicate k .del) = [] := by induction k with | zero => rfl | succ k ih => rw [List.replicate_succ]; exact ih
theorem delsU_rets (k : Nat) (p : List Ch) : delsU (List.replicate k (.ret p)) = 0 := by induction k with | zero => rfl | succ k ih => rw [List.replicate_succ]; exact ih
theorem delsU_dels (k : Nat) : delsU (List.replicate k .del) = k := by
  induction k with
  | zero => rfl
  | succ k ih => rw [List.replicate_succ]; show delsU _ + 1 = _; rw [ih]
theorem cn_runes : ∀ (us I : List Un) (g : Nat), runesU (cn us I g) = runesU I ++ runesU us ∧ delsU (cn us I g) = delsU I + g + delsU us
  | [], I, g => by rw [cn, runesU_append, delsU_append, runesU_dels, delsU_dels]; exact ⟨rfl, rfl⟩
  | .ins r s :: us, I, g => by
    obtain ⟨h1, h2⟩ := cn_runes us (I ++ [.ins r s]) g
    rw [cn, h1, h2, runesU_append, delsU_append]
    refine ⟨by simp [runesU], ?_⟩
    show delsU I + 0 + g + delsU us = delsU I + g + delsU us
    omega
  | .del :: us, I, g => by
    obtain ⟨h1, h2⟩ := cn_runes us I (g + 1)
    rw [cn, h1, h2]
    refine ⟨rfl, ?_⟩
    show _ = delsU I + g + (delsU us + 1)
    omega
  | .ret p :: us, I, g => by
    obtain ⟨h1, h2⟩ := cn_runes us [] 0
    rw [cn, runesU_append, runesU_append, delsU_append, delsU_append, runesU_dels, delsU_dels]
    refine ⟨?_, ?_⟩
    · show runesU I ++ [] ++ runesU (cn us [] 0) = _
      rw [h1, List.append_nil]; rfl
    · show delsU I + g + delsU (cn us [] 0) = delsU I + g + delsU us
      rw [h2]
      show delsU I + g + (0 + 0 + delsU us) = _
      omega
theorem nf_runes (us : List Un) : runesU (nf us) = runesU us ∧ delsU (nf us) = delsU us := by
  obtain ⟨k, hk⟩ := trim_pre (canon us)
  obtain ⟨h1, h2⟩ := cn_runes us [] 0
  have h1' : runesU (canon us) = runesU us := h1
  have h2' : delsU (canon us) = delsU us := by show delsU (cn us [] 0) = _; rw [h2]; show 0 + 0 + delsU us = _; omega
  rw [hk, runesU_append, runesU_rets, List.append_nil] at h1'
  rw [hk, delsU_append, delsU_rets] at h2'
  exact ⟨h1', h2'⟩
def posU (after : Bool) : List Un → Nat → Nat
  | [], r => r
  | .ins _ _ :: us, 0 => if after = true then posU after us 0 + 1 else 0
  | .ins _ _ :: us, r + 1 => posU after us (r + 1) + 1
  | .del :: _, 0 => 0
  | .del :: us, r + 1 => posU after us r
  | .ret _ :: _, 0 => 0
  | .ret _ :: us, r + 1 => posU after us r + 1
theorem pos_mono (a : Bool) : ∀ (us : List Un) (r q : Nat), r ≤ q → posU a us r ≤ posU a us q
  | [], r, q, h => h
  | .ins c s :: us, 0, 0, h => Nat.le_refl _
  | .ins c s :: us, 0, q + 1, h => by
    have := pos_mono a us 0 (q + 1) (Nat.zero_le _)
    simp only [posU]
    split <;> omega
  | .ins c s :: us, r + 1, 0, h => by omega
  | .ins c s :: us, r + 1, q + 1, h => by have := pos_mono a us (r + 1) (q + 1) h; simp only [posU]; omega
  | .del :: us, 0, q, h => by simp only [posU]; exact Nat.zero_le _
  | .del :: us, r + 1, 0, h => by omega
  | .del :: us, r + 1, q + 1, h => by simp only [posU]; exact pos_mono a us r q (by omega)
  | .ret p :: us, 0, q, h => by simp only [posU]; exact Nat.zero_le _
  | .ret p :: us, r + 1, 0, h => by omega
  | .ret p :: us, r + 1, q + 1, h => by have := pos_mono a us r q (by omega); simp only [posU]; omega
theorem pos_after : ∀ (us : List Un) (r : Nat), posU false us r ≤ posU true us r
  | [], r => Nat.le_refl _
  | .ins c s :: us, 0 => by simp only [posU]; exact Nat.zero_le _
  | .ins c s :: us, r + 1 => by have := pos_after us (r + 1); simp only [posU]; omega
  | .del :: us, 0 => Nat.le_refl _
  | .del :: us, r + 1 => by simp only [posU]; exact pos_after us r
  | .ret p :: us, 0 => Nat.le_refl _
  | .ret p :: us, r + 1 => by have := pos_after us r; simp only [posU]; omega
theorem pos_le (a : Bool) : ∀ (us : List Un) (r : Nat), posU a us r ≤ r + us.length
  | [], r => Nat.le_refl _
  | .ins c s :: us, 0 => by have := pos_le a us 0; simp only [posU, List.length_cons]; split <;> omega
  | .ins c s :: us, r + 1 => by have := pos_le a us (r + 1); simp only [posU, List.length_cons]; omega
  | .del :: us, 0 => Nat.zero_le _
  | .del :: us, r + 1 => by have := pos_le a us r; simp only [posU, List.length_cons]; omega
  | .ret p :: us, 0 => Nat.zero_le _
  | .ret p :: us, r + 1 => by have := pos_le a us r; simp only [posU, List.length_cons]; omega
theorem pos_stop (after : Bool) : ∀ us : List Un, (after = false ∨ ∀ u t, us = u :: t → isIns u = false) → posU after us 0 = 0
  | [], _ => rfl
  | .ins r s :: us, h => by
    rcases h with rfl | h
    · rfl
    · have := h _ _ rfl; cases this
  | .del :: us, _ => rfl
  | .ret p :: us, _ => rfl
theorem pos_ins (a : Bool) (us : List Un) (s : List At) (q : Nat) (h : 0 < q ∨ a = true) : ∀ r : List Int, posU a (r.map (fun r => Un.ins r s) ++ us) q = r.length + posU a us q
  | [] => by simp
  | c :: r => by
    have ih := pos_ins a us s q h r
    show posU a (.ins c s :: (r.map (fun r => Un.ins r s) ++ us)) q = _
    cases q with
    | zero =>
      have ha : a = true := by rcases h with h | h; omega; exact h
      simp only [posU, if_pos ha, ih, List.length_cons]; omega
    | succ q => simp only [posU, ih, List.length_cons]; omega
theorem pos_dels (a : Bool) (us : List Un) : ∀ k q : Nat, k ≤ q → posU a (List.replicate k .del ++ us) q = posU a us (q - k)
  | 0, q, _ => by simp
  | k + 1, 0, h => by omega
  | k + 1, q + 1, h => by
    rw [List.replicate_succ]
    show posU a (List.replicate k .del ++ us) q = _
    rw [pos_dels a us k q (by omega)]
    congr 1; omega
theorem pos_dels2 (a : Bool) (us : List Un) : ∀ k q : Nat, q < k → posU a (List.replicate k .del ++ us) q = 0
  | 0, q, h => by omega
  | k + 1, 0, _ => rfl
  | k + 1, q + 1, h => by
    rw [List.replicate_succ]
    exact pos_dels2 a us k q (by omega)
theorem pos_rets (a : Bool) (p : List Ch) (us : List Un) : ∀ k q : Nat, k ≤ q → posU a (List.replicate k (.ret p) ++ us) q = k + posU a us (q - k)
  | 0, q, _ => by simp
  | k + 1, 0, h => by omega
  | k + 1, q + 1, h => by
    rw [List.replicate_succ]
    show posU a (List.replicate k (.ret p) ++ us) q + 1 = _
    rw [pos_rets a p us k q (by omega), show q + 1 - (k + 1) = q - k by omega]; omega
theorem pos_rets2 (a : Bool) (p : List Ch) (us : List Un) : ∀ k q : Nat, q < k → posU a (List.replicate k (.ret p) ++ us) q = q
  | 0, q, h => by omega
  | k + 1, 0, _ => rfl
  | k + 1, q + 1, h => by
    rw [List.replicate_succ]
    show posU a (List.replicate k (.ret p) ++ us) q + 1 = _
    rw [pos_rets2 a p us k q (by omega)]

theorem units_mono (x : List OpS) (m : Nat) : (units (osOf (x.take m))).length ≤ (units (osOf x)).length := by
  obtain ⟨vs, h⟩ := units_pre x m
  rw [h, List.length_append]; omega
set_option maxRecDepth 100000 in
set_option maxHeartbeats 3200000 in
theorem small20_any (A : Option Addr) (n c : Nat) (x : List OpS) (most : Nat) (w : World) (hn : n = x.length) (h : RdOs w w.heap.size A x) (hi : ∀ o ∈ x, isOp o.o) (hb : n ≤ 1000000) (hm : most ≤ 1000000) :
    Calls Tryz.prog 44 #[.slice A n c, .int .i64 (most : Int)] w fun e w' => e = .returned (.bool (decide ((units (osOf x)).length ≤ most))) ∧ Below w.heap.size w w' := by
  have N0 := Lib.hid hn
  have HR := Lib.hid h
  have HI := Lib.hid hi
  obtain ⟨R, hR⟩ : ∃ X, decide ((units (osOf x)).length ≤ most) = X := ⟨_, rfl⟩
  have HRR := Lib.hid hR
  rw [hR]
  clear hn h hi hR
  go_enter Tryz.func44, Tryz.ntmps44
  go_wp2_with (fail)
  go_loopg [5, 6] n (fun g sv iv wr => ∃ (m a : Nat), m ≤ n ∧ a ≤ most ∧ g = n - m ∧ sv = .int .i64 (a : Int) ∧ iv = .int .i64 (m : Int) ∧ Hid (a = (units (osOf (x.take m))).length) ∧ Below w.heap.size w wr)
  case atStart => exact ⟨0, 0, Nat.zero_le _, Nat.zero_le _, rfl, rfl, rfl, Lib.hid rfl, Below.refl _ _⟩
  case round =>
    obtain ⟨m, a, hmm, ha, hg, rfl, rfl, HS, y⟩ := hrel
    have HG := Lib.hid hg
    clear hg
    by_cases hlt : m < n
    · have hlt' : (m : Int) < (n : Int) := by omega
      have hw2 : IntKind.i64.wrap ((m : Int) + 1) = (m : Int) + 1 := IntWalk.i64_in _ (by omega)
      obtain ⟨ad, o, rfl, _, _, hx, hcl⟩ := (HR.out.ext y).el (i := m) (by have := N0.out; clear hw2; omega)
      have OK := Lib.hid (HI.out o (List.mem_of_getElem? hx))
      have UT := Lib.hid (units_take hx)
      obtain ⟨⟨k, nn, r, s, p⟩, Ar, cr, As, cs, Ap, cp⟩ := o
      simp only at OK UT
      obtain ⟨z0, z1, z2, z3, z4⟩ := op_cells hcl
      obtain ⟨N, hN⟩ : ∃ N : Nat, (if k = 2 then (r.length : Int) else nn) = (N : Int) := ⟨_, unitsO_nat OK.out⟩
      have HN := Lib.hid hN
      have NU : Hid ((unitsO ⟨k, nn, r, s, p⟩).length = N) := Lib.hid (by have h := unitsO_nat OK.out; simp only at h; clear hw2; omega)
      have TOT : Hid (a + N ≤ (units (osOf x)).length) := Lib.hid (by have h := units_mono x (m + 1); rw [UT.out, List.length_append, NU.out, ← HS.out] at h; exact h)
      clear hx hcl hN
      go_wp2_with (go_at_call 111; refine Hid.out ?_)
      refine Lib.hid ?_
      refine (len15_any k nn Ar As Ap r.length s.length p.length cr cs cp _).mono ?_
      rw [HN.out]
      rintro e w2 ⟨rfl, y2⟩
      have Y2 := Lib.hid (ext_trans y y2)
      have hn0 : ¬ (N : Int) < 0 := by clear hw2; omega
      clear y2 z0 z1 z2 z3 z4
      by_cases h1 : most < N
      · have h1' : (most : Int) < (N : Int) := by clear hw2; omega
        have HF : Hid (R = false) := Lib.hid (by rw [← HRR.out]; exact decide_eq_false (by have := TOT.out; clear hw2; omega))
        go_wp2_with (fail)
        go_ret
        exact ⟨ret_bool HF.out.symm, Y2.out⟩
      have h1' : ¬ (most : Int) < (N : Int) := by clear hw2; omega
      have hw3 : IntKind.i64.wrap ((a : Int) + (N : Int)) = ((a + N : Nat) : Int) := by rw [show (a : Int) + (N : Int) = ((a + N : Nat) : Int) by omega]; exact IntWalk.i64_in _ (by clear hw2; omega)
      by_cases h2 : most < a + N
      · have h2' : (most : Int) < ((a + N : Nat) : Int) := by clear hw2 hw3; omega
        have HF : Hid (R = false) := Lib.hid (by rw [← HRR.out]; exact decide_eq_false (by have := TOT.out; clear hw2 hw3; omega))
        go_wp2_with (fail)
        go_ret
        exact ⟨ret_bool HF.out.symm, Y2.out⟩
      have h2' : ¬ (most : Int) < ((a + N : Nat) : Int) := by clear hw2 hw3; omega
      go_wp2_with (fail)
      go_roundg (n - (m + 1))
      case measure => have := HG.out; clear hw2 hw3; omega
      case rel => exact ⟨m + 1, a + N, by clear hw2 hw3; omega, by clear hw2 hw3; omega, rfl, by first | rfl | go_num, by go_num, Lib.hid (by rw [UT.out, List.length_append, NU.out, ← HS.out]), Y2.out⟩
    · have hlt' : ¬ (m : Int) < (n : Int) := by omega
      have HF : Hid (R = true) := Lib.hid (by
        rw [← HRR.out]
        have h := HS.out
        rw [List.take_of_length_le (by have := N0.out; omega)] at h
        exact decide_eq_true (by omega))
      go_wp2_with (fail)
      go_ret
      exact ⟨ret_bool HF.out.symm, y⟩

set_option maxRecDepth 100000 in
set_option maxHeartbeats 800000 in
theorem takes15_any (A : Option Addr) (n c : Nat) (x : List OpS) (w : World) (hn : n = x.length) (h : RdOs w w.heap.size A x) (hb : n ≤ 140737488355328) :
    Calls Tryz.prog 109 #[.slice A n c] w fun e w' => e = .returned (.int .i64 (takesP x)) ∧ ∃ d, w' = w.drewN d := by
  have N := Lib.hid hn
  obtain ⟨R, hR⟩ : ∃ X, takesP x = X := ⟨_, rfl⟩
  rw [hR]
  unfold takesP at hR
  have HR := Lib.hid hR
  clear hn hR
  go_enter Tryz.func109, Tryz.ntmps109
  go_wp2_with (fail)
  go_loopg [3, 4] n (fun g av iv wr => ∃ (m : Nat) (a : Int), m ≤ n ∧ g = n - m ∧ av = .int .i64 a ∧ iv = .int .i64 (m : Int) ∧ (∃ d, wr = w.drewN d) ∧ Hid ((x.drop m).foldl takeStep a = R))
  case atStart => exact ⟨0, 0, by omega, rfl, rfl, rfl, ⟨0, rfl⟩, HR⟩
  case round =>
    obtain ⟨m, a, hm, hg, rfl, rfl, ⟨d, rfl⟩, HI⟩ := hrel
    have HG := Lib.hid hg
    clear hg
    by_cases hlt : m < n
    · have hl1 : m < x.length := by have := N.out; omega
      obtain ⟨ad, o, had0, had, hd1, hx1, hc0⟩ := h.el hl1
      subst had0
      have HD : Hid (x.drop m = o :: x.drop (m + 1)) := Lib.hid (by rw [List.drop_eq_getElem_cons hl1]; rw [List.getElem?_eq_getElem hl1] at hx1; injection hx1 with hx1; rw [hx1])
      obtain ⟨⟨k, nn, r, s, p⟩, Ar, cr, As, cs, Ap, cp⟩ := o
      obtain ⟨r0, r1, r2, r3, r4⟩ := op_cells hc0
      have hw2 : IntKind.i64.wrap ((m:Int) + 1) = (m : Int) + 1 := IntWalk.i64_in _ (by omega)
      clear hc0 hd1 hx1
      by_cases hk : k = 2
      · subst hk
        have HI2 : Hid ((x.drop (m + 1)).foldl takeStep a = R) := Lib.hid (by have := HI.out; rw [HD.out, List.foldl_cons] at this; simpa [takeStep] using this)
        go_wp2_with (fail)
        go_roundg (n - (m + 1))
        case measure => have := HG.out; omega
        case rel => exact ⟨m + 1, a, by omega, rfl, rfl, by go_num, ⟨_, rfl⟩, HI2⟩
      · have hk' : (k == 2) = false := beq_eq_false_iff_ne.2 hk
        obtain ⟨W, hW⟩ : ∃ W, IntKind.i64.wrap (a + nn) = W := ⟨_, rfl⟩
        have HI2 : Hid ((x.drop (m + 1)).foldl takeStep W = R) := Lib.hid (by
          have := HI.out
          rw [HD.out, List.foldl_cons] at this
          have e : takeStep a ⟨⟨k, nn, r, s, p⟩, Ar, cr, As, cs, Ap, cp⟩ = W := by unfold takeStep; rw [if_neg hk]; exact hW
          rwa [e] at this)
        go_wp2_with (fail)
        go_roundg (n - (m + 1))
        case measure => have := HG.out; omega
        case rel => exact ⟨m + 1, W, by omega, rfl, by first | rfl | (rw [← hW]; rfl), by go_num, ⟨_, rfl⟩, HI2⟩
    · have HI9 : Hid (a = R) := Lib.hid (by have := HI.out; rwa [List.drop_of_length_le (by have := N.out; omega)] at this)
      have e := HI9.out
      clear HI HI9
      go_wp2_with (fail)
      go_ret
      subst e
      exact ⟨rfl, _, rfl⟩
end Go.Proofs.YtfnkjcodcoehcaaGreatDoor
