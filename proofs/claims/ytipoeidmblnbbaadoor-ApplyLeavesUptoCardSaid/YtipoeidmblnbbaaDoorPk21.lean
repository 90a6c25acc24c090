/- Merged texts: DiffLaw, SliceCl. -/
import Derived.Test.YtipoeidmblnbbaaDoorPk20
import Derived.Test.YtipoeidmblnbbaaDoorPk16
import Derived.Test.YtipoeidmblnbbaaDoorPk5
import Derived.Test.YtipoeidmblnbbaaDoorPk7
import Derived.Test.YtipoeidmblnbbaaDoorPk13
import Derived.IntWalk
/- What diff.Diff tells a maker, as plain functions, and its units. Plain mathematics. -/
namespace Go.Proofs.YtipoeidmblnbbaaDoor
set_option linter.unusedVariables false
set_option linter.unusedSimpArgs false

/-- how long the beginning is -/
def begD (d e : List Cl) : Nat := min (cpl d e) (min d.length e.length - 1)
/-- how long the end is -/
def endD (d e : List Cl) : Nat := 1 + cpl ((d.reverse.drop 1).map (·.r)) ((e.reverse.drop 1).map (·.r))
/-- retains told for cells that change their sets -/
def retsM (m : Mk) (z : List (Cl × Cl)) : Mk := z.foldl (fun m x => mkRetain m 1 (diffP x.1.s x.2.s)) m
theorem retsM_snoc (m : Mk) (z : List (Cl × Cl)) (x : Cl × Cl) : retsM m (z ++ [x]) = mkRetain (retsM m z) 1 (diffP x.1.s x.2.s) := by unfold retsM; rw [List.foldl_append]; rfl
/-- the maker behind the inserts and the delete, of what is behind the beginning -/
def diffM1 (n : Nat) (d1 e1 : List Cl) : Mk :=
  mkDelete (tellM (mkRetain Mk.new n []) (e1.take (e1.length - endD d1 e1))) ((d1.length : Int) - endD d1 e1)
/-- the maker that diff.Diff tells -/
def diffM (d e : List Cl) : Mk :=
  retsM (diffM1 (begD d e) (d.drop (begD d e)) (e.drop (begD d e)))
    (((d.drop (begD d e)).drop ((d.drop (begD d e)).length - endD (d.drop (begD d e)) (e.drop (begD d e)))).zip ((e.drop (begD d e)).drop ((e.drop (begD d e)).length - endD (d.drop (begD d e)) (e.drop (begD d e)))))
theorem endD_le {d e : List Cl} (hd : d ≠ []) (he : e ≠ []) : 1 ≤ endD d e ∧ endD d e ≤ d.length ∧ endD d e ≤ e.length := by
  have h1 := cpl_le_left ((d.reverse.drop 1).map (·.r)) ((e.reverse.drop 1).map (·.r))
  have h2 := cpl_le_right ((d.reverse.drop 1).map (·.r)) ((e.reverse.drop 1).map (·.r))
  have l1 : 0 < d.length := List.length_pos_iff.2 hd
  have l2 : 0 < e.length := List.length_pos_iff.2 he
  unfold endD
  simp only [List.length_map, List.length_drop, List.length_reverse] at h1 h2
  omega
theorem begD_le {d e : List Cl} (hd : d ≠ []) (he : e ≠ []) : begD d e < d.length ∧ begD d e < e.length := by
  have l1 : 0 < d.length := List.length_pos_iff.2 hd
  have l2 : 0 < e.length := List.length_pos_iff.2 he
  unfold begD
  omega
/-- from n on -/
theorem begD_at {d e : List Cl} (n : Nat) (h1 : n ≤ d.length) (h2 : n ≤ e.length) (h : d.take n = e.take n) : cpl d e = n + cpl (d.drop n) (e.drop n) := cpl_at n d e h1 h2 h
theorem rev_cl (d : List Cl) {n : Nat} (h : n < d.length) : d.reverse[n]? = d[d.length - 1 - n]? := List.getElem?_reverse h
theorem endD_at {d e : List Cl} {n : Nat} {a b : Cl} (h : endD d e = n + cpl ((d.reverse.drop n).map (·.r)) ((e.reverse.drop n).map (·.r))) (h1 : n < d.length) (h2 : n < e.length) (ha : d[d.length - 1 - n]? = some a) (hb : e[e.length - 1 - n]? = some b) :
    (a.r ≠ b.r → endD d e = n) ∧ (a.r = b.r → endD d e = n + 1 + cpl ((d.reverse.drop (n + 1)).map (·.r)) ((e.reverse.drop (n + 1)).map (·.r))) := by
  rw [← rev_cl d h1] at ha
  rw [← rev_cl e h2] at hb
  have e1 : d.reverse.drop n = a :: d.reverse.drop (n + 1) := by
    obtain ⟨hl, hv⟩ := List.getElem?_eq_some_iff.1 ha
    rw [List.drop_eq_getElem_cons hl, hv]
  have e2 : e.reverse.drop n = b :: e.reverse.drop (n + 1) := by
    obtain ⟨hl, hv⟩ := List.getElem?_eq_some_iff.1 hb
    rw [List.drop_eq_getElem_cons hl, hv]
  rw [e1, e2, List.map_cons, List.map_cons] at h
  constructor
  · intro hne
    rw [h, cpl_cons_ne hne]; rfl
  · intro he
    rw [h]
    conv => lhs; rw [cpl]
    rw [if_pos he]
    omega
theorem endD_over {d e : List Cl} {n : Nat} (h : endD d e = n + cpl ((d.reverse.drop n).map (·.r)) ((e.reverse.drop n).map (·.r))) (h1 : d.length ≤ n ∨ e.length ≤ n) : endD d e = n := by
  rw [h]
  rcases h1 with h1 | h1
  · rw [List.drop_eq_nil_of_le (by simpa using h1)]
    show n + cpl [] _ = n
    rw [cpl_nil_left]; rfl
  · have h2 : e.reverse.drop n = [] := List.drop_eq_nil_of_le (by simpa using h1)
    rw [h2]
    show n + cpl _ [] = n
    rw [cpl_nil_right]; rfl
/-- the units of those retains -/
def retU (x : Cl × Cl) : Un := .ret (diffP x.1.s x.2.s)
theorem MkAt.rets1 {m : Mk} {K I : List Un} {g : Nat} (h : MkAt m K I g) (x : Cl × Cl) (hb : K.length + I.length + g + 1 ≤ 4611686018427387904) :
    MkAt (mkRetain m 1 (diffP x.1.s x.2.s)) (K ++ I ++ List.replicate g .del ++ [retU x]) [] 0 := by
  have := h.retain (n := 1) (p := diffP x.1.s x.2.s) (by omega) (by omega)
  exact this
theorem MkAt.rets {m : Mk} {K I : List Un} {g : Nat} (h : MkAt m K I g) {z : List (Cl × Cl)} (hz : z ≠ []) (hb : K.length + I.length + g + z.length ≤ 4611686018427387904) :
    MkAt (retsM m z) (K ++ I ++ List.replicate g .del ++ z.map retU) [] 0 := by
  induction z generalizing m K I g with
  | nil => exact absurd rfl hz
  | cons x z ih =>
    have h1 := h.rets1 x (by simp at hb; omega)
    cases z with
    | nil => exact h1
    | cons y z =>
      have := ih h1 (by simp) (by simp at hb ⊢; omega)
      have e : K ++ I ++ List.replicate g .del ++ [retU x] ++ [] ++ List.replicate 0 .del ++ (y :: z).map retU = K ++ I ++ List.replicate g .del ++ (x :: y :: z).map retU := by simp
      rw [e] at this
      exact this
theorem MkAt.retain_new {n : Nat} {p : List Ch} (hb : n ≤ 4611686018427387904) : MkAt (mkRetain Mk.new n p) (List.replicate n (.ret p)) [] 0 := by
  cases n with
  | zero => exact MkAt.new.retain0 (by omega)
  | succ n =>
    have := MkAt.new.retain (n := ((n + 1 : Nat) : Int)) (p := p) (by omega) (by simp; omega)
    simpa using this
/-- the units behind the beginning -/
def diffU1 (d1 e1 : List Cl) : List Un :=
  (e1.take (e1.length - endD d1 e1)).map insU ++ List.replicate (d1.length - endD d1 e1) .del ++ ((d1.drop (d1.length - endD d1 e1)).zip (e1.drop (e1.length - endD d1 e1))).map retU
def diffU (d e : List Cl) : List Un := List.replicate (begD d e) (.ret []) ++ diffU1 (d.drop (begD d e)) (e.drop (begD d e))
theorem diff_at {d e : List Cl} (hd : d ≠ []) (he : e ≠ []) (bd : d.length ≤ 1000000) (be : e.length ≤ 1000000) : MkAt (diffM d e) (diffU d e) [] 0 := by
  obtain ⟨b1, b2⟩ := begD_le hd he
  have hd1 : d.drop (begD d e) ≠ [] := fun h => by have := congrArg List.length h; simp at this; omega
  have he1 : e.drop (begD d e) ≠ [] := fun h => by have := congrArg List.length h; simp at this; omega
  unfold diffM diffU
  have ld : (d.drop (begD d e)).length ≤ 1000000 := by rw [List.length_drop]; omega
  have le : (e.drop (begD d e)).length ≤ 1000000 := by rw [List.length_drop]; omega
  have hn : begD d e ≤ 1000000 := by omega
  generalize begD d e = n at *
  generalize d.drop n = d1 at *
  generalize e.drop n = e1 at *
  obtain ⟨k1, k2, k3⟩ := endD_le hd1 he1
  unfold diffM1 diffU1
  generalize endD d1 e1 = k at *
  have h0 := MkAt.retain_new (n := n) (p := []) (by omega)
  have h1 := h0.tell (e1.take (e1.length - k))
  have h2 := h1.delete (n := (d1.length : Int) - k) (by omega) (by omega)
  have hz : (d1.drop (d1.length - k)).zip (e1.drop (e1.length - k)) ≠ [] := fun h => by
    have := congrArg List.length h
    simp at this
    omega
  have e0 : 0 + ((d1.length : Int) - k).toNat = d1.length - k := by omega
  rw [e0] at h2
  have h3 := h2.rets hz (by simp; omega)
  have e3 : List.replicate n (.ret []) ++ ([] ++ (e1.take (e1.length - k)).map insU) ++ List.replicate (d1.length - k) .del ++ ((d1.drop (d1.length - k)).zip (e1.drop (e1.length - k))).map retU
      = List.replicate n (.ret []) ++ ((e1.take (e1.length - k)).map insU ++ List.replicate (d1.length - k) .del ++ ((d1.drop (d1.length - k)).zip (e1.drop (e1.length - k))).map retU) := by simp
  rw [e3] at h3
  exact h3
theorem diff_units {d e : List Cl} (hd : d ≠ []) (he : e ≠ []) (bd : d.length ≤ 1000000) (be : e.length ≤ 1000000) : tight (mkOps (diffM d e)) ∧ units (mkOps (diffM d e)) = trim (diffU d e) := by
  have h := (diff_at hd he bd be).ops
  simpa using h

theorem trim_front {us vs : List Un} (h : trim vs ≠ []) : trim (us ++ vs) = us ++ trim vs := by
  induction us with
  | nil => rfl
  | cons u us ih => show trim (u :: (us ++ vs)) = _; rw [trim_cons_ne (.inl (by rw [ih]; simp [h])), ih]; rfl
/-- what begins with retains without a patch has an op of at least as many -/
theorem first_ret {n : Nat} {x : List Opd} {vs : List Un} (hx : tight x) (hu : units x = List.replicate n (.ret []) ++ vs) (hn : 1 ≤ n) : ∃ o t, x = o :: t ∧ o.k = 1 ∧ o.p = [] ∧ (n : Int) ≤ o.n := by
  cases x with
  | nil =>
    exfalso
    have := congrArg List.length hu
    simp [units_nil] at this
    omega
  | cons o t =>
    refine ⟨o, t, rfl, ?_⟩
    obtain ⟨h1, h2, h3⟩ := hx
    rw [units_cons] at hu
    obtain ⟨k, rfl⟩ : ∃ k, n = k + 1 := ⟨n - 1, by omega⟩
    rw [List.replicate_succ] at hu
    rcases isOp_kind h1 with hk | hk | hk
    · exfalso
      obtain ⟨e, hr⟩ := opI_of h1 hk
      rw [e, unitsO_I] at hu
      obtain ⟨a, r, hr⟩ := List.exists_cons_of_ne_nil hr
      rw [hr] at hu
      simp only [List.map_cons, List.cons_append, List.cons.injEq, reduceCtorEq, false_and] at hu
    · exfalso
      obtain ⟨e, hr⟩ := opD_of h1 hk
      rw [e, unitsO_D] at hu
      obtain ⟨m, hm⟩ : ∃ m, o.n.toNat = m + 1 := ⟨o.n.toNat - 1, by omega⟩
      rw [hm, List.replicate_succ] at hu
      simp only [List.cons_append, List.cons.injEq, reduceCtorEq, false_and] at hu
    · obtain ⟨e, hr⟩ := opR_of h1 hk
      have hu2 := hu
      rw [e, unitsO_R] at hu2
      obtain ⟨m, hm⟩ : ∃ m, o.n.toNat = m + 1 := ⟨o.n.toNat - 1, by omega⟩
      rw [hm, List.replicate_succ] at hu2
      simp only [List.cons_append, List.cons.injEq] at hu2
      obtain ⟨hp, hu3⟩ := hu2
      injection hp with hp
      refine ⟨hk, hp, ?_⟩
      rcases Nat.lt_or_ge m k with hlt | hge
      · exfalso
        rw [hp] at hu3
        have e4 : List.replicate k (Un.ret []) ++ vs = List.replicate m (Un.ret []) ++ (List.replicate (k - m) (Un.ret []) ++ vs) := by
          rw [← List.append_assoc, List.replicate_append_replicate, show m + (k - m) = k by omega]
        rw [e4] at hu3
        have hu4 := List.append_cancel_left hu3
        cases t with
        | nil =>
          have := congrArg List.length hu4
          simp [units_nil] at this
          omega
        | cons b t =>
          obtain ⟨j, hj⟩ : ∃ j, k - m = j + 1 := ⟨k - m - 1, by omega⟩
          rw [hj, List.replicate_succ, units_cons] at hu4
          obtain ⟨b1, b2, b3⟩ := h3
          rcases isOp_kind b1 with hb | hb | hb
          · obtain ⟨e, hr⟩ := opI_of b1 hb
            rw [e, unitsO_I] at hu4
            obtain ⟨a, r, hr⟩ := List.exists_cons_of_ne_nil hr
            rw [hr] at hu4
            simp only [List.map_cons, List.cons_append, List.cons.injEq, reduceCtorEq, false_and] at hu4
          · obtain ⟨e, hr⟩ := opD_of b1 hb
            rw [e, unitsO_D] at hu4
            obtain ⟨i, hi⟩ : ∃ i, b.n.toNat = i + 1 := ⟨b.n.toNat - 1, by omega⟩
            rw [hi, List.replicate_succ] at hu4
            simp only [List.cons_append, List.cons.injEq, reduceCtorEq, false_and] at hu4
          · obtain ⟨e', hr'⟩ := opR_of b1 hb
            rw [e', unitsO_R] at hu4
            obtain ⟨i, hi⟩ : ∃ i, b.n.toNat = i + 1 := ⟨b.n.toNat - 1, by omega⟩
            rw [hi, List.replicate_succ] at hu4
            simp only [List.cons_append, List.cons.injEq] at hu4
            have hbp := hu4.1
            injection hbp with hbp
            have : canMerge o b = true := by simp [canMerge, hk, hb, hp, hbp]
            rw [h2] at this; cases this
      · omega
/-- the difference begins with a retain of at least the common beginning -/
theorem diff_touches {d e : List Cl} (hd : d ≠ []) (he : e ≠ []) (bd : d.length ≤ 1000000) (be : e.length ≤ 1000000) (hn : 1 ≤ begD d e) (hx : mkOps (diffM d e) ≠ []) :
    ∃ o t, mkOps (diffM d e) = o :: t ∧ o.k = 1 ∧ o.p = [] ∧ (begD d e : Int) ≤ o.n := by
  obtain ⟨h1, h2⟩ := diff_units hd he bd be
  have hne : trim (diffU1 (d.drop (begD d e)) (e.drop (begD d e))) ≠ [] := fun h => by
    have h3 : trim (diffU d e) = [] := by
      refine trim_nil_iff.2 fun u hu => ?_
      rcases List.mem_append.1 hu with hu | hu
      · exact (List.mem_replicate.1 hu).2
      · exact trim_nil_iff.1 h u hu
    rw [h3] at h2
    apply hx
    rw [← enc_units h1, h2]; rfl
  unfold diffU at h2
  rw [trim_front hne] at h2
  exact first_ret h1 h2 hn
/-- how great the maker is -/
theorem retsM_B {m : Mk} {K S : Nat} (h : MkB m K S) : ∀ (z : List (Cl × Cl)), (∀ x ∈ z, (diffP x.1.s x.2.s).length ≤ S) → MkB (retsM m z) (K + 2 * z.length) S := by
  intro z
  induction z generalizing m K with
  | nil => intro _; exact h
  | cons x z ih =>
    intro hz
    have := ih (h.retain 1 (hz x (by simp))) (fun y hy => hz y (by simp [hy]))
    rw [List.length_cons, show K + 2 * (z.length + 1) = K + 2 + 2 * z.length by omega]
    exact this
theorem MkB.tell {m : Mk} {K S : Nat} (h : MkB m K S) : ∀ (d : List Cl), (∀ c ∈ d, c.s.length ≤ S) → MkB (tellM m d) (K + d.length) S := by
  intro d
  induction d generalizing m K with
  | nil => intro _; exact h
  | cons c d ih =>
    intro hs
    have := ih (h.insert [c.r] (hs c (by simp))) (fun x hx => hs x (by simp [hx]))
    rw [List.length_cons, show K + (d.length + 1) = K + 1 + d.length by omega]
    exact this
end Go.Proofs.YtipoeidmblnbbaaDoor
/- Slice expressions on slices of cells. -/
namespace Go.Proofs.YtipoeidmblnbbaaDoor
open Go.RowKit
set_option linter.unusedVariables false
set_option linter.unusedSimpArgs false

theorem w64_in (n : Int) (h : -9223372036854775808 ≤ n ∧ n ≤ 9223372036854775807) : wrap64 n = n := by rw [← IntWalk.i64_left, IntWalk.i64_in _ h]
theorem Tryd.elCl : Tryd.prog.elem 23 = 53 := by kernel_rfl
theorem Tryd.szCl : (Tryd.prog.info? 53).map (·.size) = some 2 := by kernel_rfl
theorem size_cl (W : World) : (sizeOf 53).run Tryd.prog W = .ok 2 W := by
  cases h : Tryd.prog.info? 53 with
  | none => have := Tryd.szCl; rw [h] at this; cases this
  | some i => have := Tryd.szCl; rw [h] at this; simp at this; simp [sizeOf, typeInfo, h, this]
theorem sl_one {A A8 : Option Addr} {n c i c8 : Nat} (hA8 : advS A c i 2 = A8) (hc8 : c - i = c8) (h : i + 1 ≤ c) (W : World) : (Instr.slice 23 (.slice A n c) (some (.int .i64 (i : Int))) (some (.int .i64 ((i : Int) + 1))) none).run Tryd.prog W = .ok (.slice A8 1 c8) W := by
  have h1 := sl_both (P := Tryd.prog) (n := n) (n' := 1) (y := (i : Int)) (z := (i : Int) + 1) (k := i) (l := i + 1) Tryd.slCl Tryd.elCl size_cl rfl (by omega) hA8 (by omega) hc8 (by omega) h W
  exact h1
theorem RdCl.take {w : World} {B : Nat} {A : Option Addr} {l : List ClS} (h : RdCl w B A l) (k : Nat) : RdCl w B A (l.take k) := ⟨h.1.take k, fun x hx => h.2 x (List.mem_of_mem_take hx)⟩
theorem RdCl.from {w : World} {B k c : Nat} {A A' : Option Addr} {l : List ClS} (h : RdCl w B A l) (hA : advS A c k 2 = A') (hk : k ≤ l.length) (hc : l.length ≤ c) : RdCl w B A' (l.drop k) := ⟨hA ▸ h.1.advS hk hc, fun x hx => h.2 x (List.mem_of_mem_drop hx)⟩
theorem clsOf_take (l : List ClS) (k : Nat) : clsOf (l.take k) = (clsOf l).take k := by unfold clsOf; rw [List.map_take]
theorem clsOf_drop (l : List ClS) (k : Nat) : clsOf (l.drop k) = (clsOf l).drop k := by unfold clsOf; rw [List.map_drop]
theorem clsOf_len (l : List ClS) : (clsOf l).length = l.length := by unfold clsOf; simp
theorem clsOf_at {l : List ClS} {i : Nat} {x : ClS} (h : l[i]? = some x) : (clsOf l)[i]? = some x.c := by unfold clsOf; rw [List.getElem?_map, h]; rfl
end Go.Proofs.YtipoeidmblnbbaaDoor
