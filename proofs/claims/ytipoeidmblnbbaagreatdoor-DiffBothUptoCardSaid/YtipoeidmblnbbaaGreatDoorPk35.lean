/- Merged texts: Cpl, DiffLaw, DiffW, DiffW2, MkIn, DiffOk. -/
import Derived.Test.YtipoeidmblnbbaaGreatDoorPk7
import Derived.Test.YtipoeidmblnbbaaGreatDoorPk25
import Derived.Test.YtipoeidmblnbbaaGreatDoorPk24
import Derived.Test.YtipoeidmblnbbaaGreatDoorPk15
import Derived.Test.YtipoeidmblnbbaaGreatDoorPk18
import Derived.Test.YtipoeidmblnbbaaGreatDoorPk16
import Derived.Test.YtipoeidmblnbbaaGreatDoorPk26
/- How long the common beginning of two lists is. -/
namespace Go.Proofs.YtipoeidmblnbbaaGreatDoor
set_option linter.unusedVariables false
set_option linter.unusedSimpArgs false

def cpl {α : Type} [DecidableEq α] : List α → List α → Nat
  | a :: x, b :: y => if a = b then cpl x y + 1 else 0
  | _, _ => 0
theorem cpl_le_left {α : Type} [DecidableEq α] : ∀ (x y : List α), cpl x y ≤ x.length
  | [], _ => by simp [cpl]
  | _ :: _, [] => by simp [cpl]
  | a :: x, b :: y => by
    unfold cpl
    split
    · have := cpl_le_left x y; simp; omega
    · exact Nat.zero_le _
theorem cpl_le_right {α : Type} [DecidableEq α] : ∀ (x y : List α), cpl x y ≤ y.length
  | [], _ => by simp [cpl]
  | _ :: _, [] => by simp [cpl]
  | a :: x, b :: y => by
    unfold cpl
    split
    · have := cpl_le_right x y; simp; omega
    · exact Nat.zero_le _
theorem cpl_take {α : Type} [DecidableEq α] : ∀ (x y : List α), x.take (cpl x y) = y.take (cpl x y)
  | [], _ => by simp [cpl]
  | _ :: _, [] => by simp [cpl]
  | a :: x, b :: y => by
    unfold cpl
    split
    · rename_i h; subst h
      rw [List.take_succ_cons, List.take_succ_cons, cpl_take x y]
    · simp
/-- from m equal ones on -/
theorem cpl_at {α : Type} [DecidableEq α] : ∀ (m : Nat) (x y : List α), m ≤ x.length → m ≤ y.length → x.take m = y.take m → cpl x y = m + cpl (x.drop m) (y.drop m)
  | 0, x, y, _, _, _ => by simp
  | m + 1, [], y, h, _, _ => by simp at h
  | m + 1, _ :: _, [], _, h, _ => by simp at h
  | m + 1, a :: x, b :: y, h1, h2, h => by
    rw [List.take_succ_cons, List.take_succ_cons] at h
    injection h with hab ht
    subst hab
    have := cpl_at m x y (by simpa using h1) (by simpa using h2) ht
    simp only [cpl, if_true, List.drop_succ_cons]
    omega
theorem cpl_cons_ne {α : Type} [DecidableEq α] {a b : α} {x y : List α} (h : a ≠ b) : cpl (a :: x) (b :: y) = 0 := by simp [cpl, h]
theorem cpl_nil_left {α : Type} [DecidableEq α] (y : List α) : cpl ([] : List α) y = 0 := by simp [cpl]
theorem cpl_nil_right {α : Type} [DecidableEq α] (x : List α) : cpl x ([] : List α) = 0 := by cases x <;> simp [cpl]
end Go.Proofs.YtipoeidmblnbbaaGreatDoor
/- What diff.Diff tells a maker, as plain functions, and its units. Plain mathematics. -/
namespace Go.Proofs.YtipoeidmblnbbaaGreatDoor
set_option linter.unusedVariables false
set_option linter.unusedSimpArgs false

/-- how long the beginning is -/
def begD (d e : List Cl) : Nat := min (cpl d e) (min d.length e.length - 1)
/-- how long the end is -/
def endD (d e : List Cl) : Nat := 1 + cpl ((d.reverse.drop 1).map (·.r)) ((e.reverse.drop 1).map (·.r))
/-- retains told for cells that change their sets -/
def retsM (m : Mk) (z : List (Cl × Cl)) : Mk := z.foldl (fun m x => mkRetain m 1 (diffP x.1.s x.2.s)) m
theorem retsM_snoc (m : Mk) (z : List (Cl × Cl)) (x : Cl × Cl) : retsM m (z ++ [x]) = mkRetain (retsM m z) 1 (diffP x.1.s x.2.s) := by unfold retsM; rw [List.foldl_append]; rfl
/-- the maker behind the inserts and the delete, of what is behind the beginning -/
def diffM1 (n : Nat) (d1 e1 : List Cl) : Mk :=
  mkDelete (tellM (mkRetain Mk.new n []) (e1.take (e1.length - endD d1 e1))) ((d1.length : Int) - endD d1 e1)
/-- the maker that diff.Diff tells -/
def diffM (d e : List Cl) : Mk :=
  retsM (diffM1 (begD d e) (d.drop (begD d e)) (e.drop (begD d e)))
    (((d.drop (begD d e)).drop ((d.drop (begD d e)).length - endD (d.drop (begD d e)) (e.drop (begD d e)))).zip ((e.drop (begD d e)).drop ((e.drop (begD d e)).length - endD (d.drop (begD d e)) (e.drop (begD d e)))))
theorem endD_le {d e : List Cl} (hd : d ≠ []) (he : e ≠ []) : 1 ≤ endD d e ∧ endD d e ≤ d.length ∧ endD d e ≤ e.length := by
  have h1 := cpl_le_left ((d.reverse.drop 1).map (·.r)) ((e.reverse.drop 1).map (·.r))
  have h2 := cpl_le_right ((d.reverse.drop 1).map (·.r)) ((e.reverse.drop 1).map (·.r))
  have l1 : 0 < d.length := List.length_pos_iff.2 hd
  have l2 : 0 < e.length := List.length_pos_iff.2 he
  unfold endD
  simp only [List.length_map, List.length_drop, List.length_reverse] at h1 h2
  omega
theorem begD_le {d e : List Cl} (hd : d ≠ []) (he : e ≠ []) : begD d e < d.length ∧ begD d e < e.length := by
  have l1 : 0 < d.length := List.length_pos_iff.2 hd
  have l2 : 0 < e.length := List.length_pos_iff.2 he
  unfold begD
  omega
/-- from n on -/
theorem begD_at {d e : List Cl} (n : Nat) (h1 : n ≤ d.length) (h2 : n ≤ e.length) (h : d.take n = e.take n) : cpl d e = n + cpl (d.drop n) (e.drop n) := cpl_at n d e h1 h2 h
theorem rev_cl (d : List Cl) {n : Nat} (h : n < d.length) : d.reverse[n]? = d[d.length - 1 - n]? := List.getElem?_reverse h
theorem endD_at {d e : List Cl} {n : Nat} {a b : Cl} (h : endD d e = n + cpl ((d.reverse.drop n).map (·.r)) ((e.reverse.drop n).map (·.r))) (h1 : n < d.length) (h2 : n < e.length) (ha : d[d.length - 1 - n]? = some a) (hb : e[e.length - 1 - n]? = some b) :
    (a.r ≠ b.r → endD d e = n) ∧ (a.r = b.r → endD d e = n + 1 + cpl ((d.reverse.drop (n + 1)).map (·.r)) ((e.reverse.drop (n + 1)).map (·.r))) := by
  rw [← rev_cl d h1] at ha
  rw [← rev_cl e h2] at hb
  have e1 : d.reverse.drop n = a :: d.reverse.drop (n + 1) := by
    obtain ⟨hl, hv⟩ := List.getElem?_eq_some_iff.1 ha
    rw [List.drop_eq_getElem_cons hl, hv]
  have e2 : e.reverse.drop n = b :: e.reverse.drop (n + 1) := by
    obtain ⟨hl, hv⟩ := List.getElem?_eq_some_iff.1 hb
    rw [List.drop_eq_getElem_cons hl, hv]
  rw [e1, e2, List.map_cons, List.map_cons] at h
  constructor
  · intro hne
    rw [h, cpl_cons_ne hne]; rfl
  · intro he
    rw [h]
    conv => lhs; rw [cpl]
    rw [if_pos he]
    omega
theorem endD_over {d e : List Cl} {n : Nat} (h : endD d e = n + cpl ((d.reverse.drop n).map (·.r)) ((e.reverse.drop n).map (·.r))) (h1 : d.length ≤ n ∨ e.length ≤ n) : endD d e = n := by
  rw [h]
  rcases h1 with h1 | h1
  · rw [List.drop_eq_nil_of_le (by simpa using h1)]
    show n + cpl [] _ = n
    rw [cpl_nil_left]; rfl
  · have h2 : e.reverse.drop n = [] := List.drop_eq_nil_of_le (by simpa using h1)
    rw [h2]
    show n + cpl _ [] = n
    rw [cpl_nil_right]; rfl
/-- the units of those retains -/
def retU (x : Cl × Cl) : Un := .ret (diffP x.1.s x.2.s)
theorem MkAt.rets1 {m : Mk} {K I : List Un} {g : Nat} (h : MkAt m K I g) (x : Cl × Cl) (hb : K.length + I.length + g + 1 ≤ 4611686018427387904) :
    MkAt (mkRetain m 1 (diffP x.1.s x.2.s)) (K ++ I ++ List.replicate g .del ++ [retU x]) [] 0 := by
  have := h.retain (n := 1) (p := diffP x.1.s x.2.s) (by omega) (by omega)
  exact this
theorem MkAt.rets {m : Mk} {K I : List Un} {g : Nat} (h : MkAt m K I g) {z : List (Cl × Cl)} (hz : z ≠ []) (hb : K.length + I.length + g + z.length ≤ 4611686018427387904) :
    MkAt (retsM m z) (K ++ I ++ List.replicate g .del ++ z.map retU) [] 0 := by
  induction z generalizing m K I g with
  | nil => exact absurd rfl hz
  | cons x z ih =>
    have h1 := h.rets1 x (by simp at hb; omega)
    cases z with
    | nil => exact h1
    | cons y z =>
      have := ih h1 (by simp) (by simp at hb ⊢; omega)
      have e : K ++ I ++ List.replicate g .del ++ [retU x] ++ [] ++ List.replicate 0 .del ++ (y :: z).map retU = K ++ I ++ List.replicate g .del ++ (x :: y :: z).map retU := by simp
      rw [e] at this
      exact this
theorem MkAt.retain_new {n : Nat} {p : List Ch} (hb : n ≤ 4611686018427387904) : MkAt (mkRetain Mk.new n p) (List.replicate n (.ret p)) [] 0 := by
  cases n with
  | zero => exact MkAt.new.retain0 (by omega)
  | succ n =>
    have := MkAt.new.retain (n := ((n + 1 : Nat) : Int)) (p := p) (by omega) (by simp; omega)
    simpa using this
/-- the units behind the beginning -/
def diffU1 (d1 e1 : List Cl) : List Un :=
  (e1.take (e1.length - endD d1 e1)).map insU ++ List.replicate (d1.length - endD d1 e1) .del ++ ((d1.drop (d1.length - endD d1 e1)).zip (e1.drop (e1.length - endD d1 e1))).map retU
def diffU (d e : List Cl) : List Un := List.replicate (begD d e) (.ret []) ++ diffU1 (d.drop (begD d e)) (e.drop (begD d e))
theorem diff_at {d e : List Cl} (hd : d ≠ []) (he : e ≠ []) (bd : d.length ≤ 1000000) (be : e.length ≤ 1000000) : MkAt (diffM d e) (diffU d e) [] 0 := by
  obtain ⟨b1, b2⟩ := begD_le hd he
  have hd1 : d.drop (begD d e) ≠ [] := fun h => by have := congrArg List.length h; simp at this; omega
  have he1 : e.drop (begD d e) ≠ [] := fun h => by have := congrArg List.length h; simp at this; omega
  unfold diffM diffU
  have ld : (d.drop (begD d e)).length ≤ 1000000 := by rw [List.length_drop]; omega
  have le : (e.drop (begD d e)).length ≤ 1000000 := by rw [List.length_drop]; omega
  have hn : begD d e ≤ 1000000 := by omega
  generalize begD d e = n at *
  generalize d.drop n = d1 at *
  generalize e.drop n = e1 at *
  obtain ⟨k1, k2, k3⟩ := endD_le hd1 he1
  unfold diffM1 diffU1
  generalize endD d1 e1 = k at *
  have h0 := MkAt.retain_new (n := n) (p := []) (by omega)
  have h1 := h0.tell (e1.take (e1.length - k))
  have h2 := h1.delete (n := (d1.length : Int) - k) (by omega) (by omega)
  have hz : (d1.drop (d1.length - k)).zip (e1.drop (e1.length - k)) ≠ [] := fun h => by
    have := congrArg List.length h
    simp at this
    omega
  have e0 : 0 + ((d1.length : Int) - k).toNat = d1.length - k := by omega
  rw [e0] at h2
  have h3 := h2.rets hz (by simp; omega)
  have e3 : List.replicate n (.ret []) ++ ([] ++ (e1.take (e1.length - k)).map insU) ++ List.replicate (d1.length - k) .del ++ ((d1.drop (d1.length - k)).zip (e1.drop (e1.length - k))).map retU
      = List.replicate n (.ret []) ++ ((e1.take (e1.length - k)).map insU ++ List.replicate (d1.length - k) .del ++ ((d1.drop (d1.length - k)).zip (e1.drop (e1.length - k))).map retU) := by simp
  rw [e3] at h3
  exact h3
theorem diff_units {d e : List Cl} (hd : d ≠ []) (he : e ≠ []) (bd : d.length ≤ 1000000) (be : e.length ≤ 1000000) : tight (mkOps (diffM d e)) ∧ units (mkOps (diffM d e)) = trim (diffU d e) := by
  have h := (diff_at hd he bd be).ops
  simpa using h

theorem trim_front {us vs : List Un} (h : trim vs ≠ []) : trim (us ++ vs) = us ++ trim vs := by
  induction us with
  | nil => rfl
  | cons u us ih => show trim (u :: (us ++ vs)) = _; rw [trim_cons_ne (.inl (by rw [ih]; simp [h])), ih]; rfl
/-- what begins with retains without a patch has an op of at least as many -/
theorem first_ret {n : Nat} {x : List Opd} {vs : List Un} (hx : tight x) (hu : units x = List.replicate n (.ret []) ++ vs) (hn : 1 ≤ n) : ∃ o t, x = o :: t ∧ o.k = 1 ∧ o.p = [] ∧ (n : Int) ≤ o.n := by
  cases x with
  | nil =>
    exfalso
    have := congrArg List.length hu
    simp [units_nil] at this
    omega
  | cons o t =>
    refine ⟨o, t, rfl, ?_⟩
    obtain ⟨h1, h2, h3⟩ := hx
    rw [units_cons] at hu
    obtain ⟨k, rfl⟩ : ∃ k, n = k + 1 := ⟨n - 1, by omega⟩
    rw [List.replicate_succ] at hu
    rcases isOp_kind h1 with hk | hk | hk
    · exfalso
      obtain ⟨e, hr⟩ := opI_of h1 hk
      rw [e, unitsO_I] at hu
      obtain ⟨a, r, hr⟩ := List.exists_cons_of_ne_nil hr
      rw [hr] at hu
      simp only [List.map_cons, List.cons_append, List.cons.injEq, reduceCtorEq, false_and] at hu
    · exfalso
      obtain ⟨e, hr⟩ := opD_of h1 hk
      rw [e, unitsO_D] at hu
      obtain ⟨m, hm⟩ : ∃ m, o.n.toNat = m + 1 := ⟨o.n.toNat - 1, by omega⟩
      rw [hm, List.replicate_succ] at hu
      simp only [List.cons_append, List.cons.injEq, reduceCtorEq, false_and] at hu
    · obtain ⟨e, hr⟩ := opR_of h1 hk
      have hu2 := hu
      rw [e, unitsO_R] at hu2
      obtain ⟨m, hm⟩ : ∃ m, o.n.toNat = m + 1 := ⟨o.n.toNat - 1, by omega⟩
      rw [hm, List.replicate_succ] at hu2
      simp only [List.cons_append, List.cons.injEq] at hu2
      obtain ⟨hp, hu3⟩ := hu2
      injection hp with hp
      refine ⟨hk, hp, ?_⟩
      rcases Nat.lt_or_ge m k with hlt | hge
      · exfalso
        rw [hp] at hu3
        have e4 : List.replicate k (Un.ret []) ++ vs = List.replicate m (Un.ret []) ++ (List.replicate (k - m) (Un.ret []) ++ vs) := by
          rw [← List.append_assoc, List.replicate_append_replicate, show m + (k - m) = k by omega]
        rw [e4] at hu3
        have hu4 := List.append_cancel_left hu3
        cases t with
        | nil =>
          have := congrArg List.length hu4
          simp [units_nil] at this
          omega
        | cons b t =>
          obtain ⟨j, hj⟩ : ∃ j, k - m = j + 1 := ⟨k - m - 1, by omega⟩
          rw [hj, List.replicate_succ, units_cons] at hu4
          obtain ⟨b1, b2, b3⟩ := h3
          rcases isOp_kind b1 with hb | hb | hb
          · obtain ⟨e, hr⟩ := opI_of b1 hb
            rw [e, unitsO_I] at hu4
            obtain ⟨a, r, hr⟩ := List.exists_cons_of_ne_nil hr
            rw [hr] at hu4
            simp only [List.map_cons, List.cons_append, List.cons.injEq, reduceCtorEq, false_and] at hu4
          · obtain ⟨e, hr⟩ := opD_of b1 hb
            rw [e, unitsO_D] at hu4
            obtain ⟨i, hi⟩ : ∃ i, b.n.toNat = i + 1 := ⟨b.n.toNat - 1, by omega⟩
            rw [hi, List.replicate_succ] at hu4
            simp only [List.cons_append, List.cons.injEq, reduceCtorEq, false_and] at hu4
          · obtain ⟨e', hr'⟩ := opR_of b1 hb
            rw [e', unitsO_R] at hu4
            obtain ⟨i, hi⟩ : ∃ i, b.n.toNat = i + 1 := ⟨b.n.toNat - 1, by omega⟩
            rw [hi, List.replicate_succ] at hu4
            simp only [List.cons_append, List.cons.injEq] at hu4
            have hbp := hu4.1
            injection hbp with hbp
            have : canMerge o b = true := by simp [canMerge, hk, hb, hp, hbp]
            rw [h2] at this; cases this
      · omega
/-- the difference begins with a retain of at least the common beginning -/
theorem diff_touches {d e : List Cl} (hd : d ≠ []) (he : e ≠ []) (bd : d.length ≤ 1000000) (be : e.length ≤ 1000000) (hn : 1 ≤ begD d e) (hx : mkOps (diffM d e) ≠ []) :
    ∃ o t, mkOps (diffM d e) = o :: t ∧ o.k = 1 ∧ o.p = [] ∧ (begD d e : Int) ≤ o.n := by
  obtain ⟨h1, h2⟩ := diff_units hd he bd be
  have hne : trim (diffU1 (d.drop (begD d e)) (e.drop (begD d e))) ≠ [] := fun h => by
    have h3 : trim (diffU d e) = [] := by
      refine trim_nil_iff.2 fun u hu => ?_
      rcases List.mem_append.1 hu with hu | hu
      · exact (List.mem_replicate.1 hu).2
      · exact trim_nil_iff.1 h u hu
    rw [h3] at h2
    apply hx
    rw [← enc_units h1, h2]; rfl
  unfold diffU at h2
  rw [trim_front hne] at h2
  exact first_ret h1 h2 hn
/-- how great the maker is -/
theorem retsM_B {m : Mk} {K S : Nat} (h : MkB m K S) : ∀ (z : List (Cl × Cl)), (∀ x ∈ z, (diffP x.1.s x.2.s).length ≤ S) → MkB (retsM m z) (K + 2 * z.length) S := by
  intro z
  induction z generalizing m K with
  | nil => intro _; exact h
  | cons x z ih =>
    intro hz
    have := ih (h.retain 1 (hz x (by simp))) (fun y hy => hz y (by simp [hy]))
    rw [List.length_cons, show K + 2 * (z.length + 1) = K + 2 + 2 * z.length by omega]
    exact this
theorem MkB.tellD {m : Mk} {K S : Nat} (h : MkB m K S) : ∀ (d : List Cl), (∀ c ∈ d, c.s.length ≤ S) → MkB (tellM m d) (K + d.length) S := by
  intro d
  induction d generalizing m K with
  | nil => intro _; exact h
  | cons c d ih =>
    intro hs
    have := ih (h.insert [c.r] (hs c (by simp))) (fun x hx => hs x (by simp [hx]))
    rw [List.length_cons, show K + (d.length + 1) = K + 1 + d.length by omega]
    exact this
end Go.Proofs.YtipoeidmblnbbaaGreatDoor
/- The walks of diff.begin and diff.end. -/
namespace Go.Proofs.YtipoeidmblnbbaaGreatDoor
open Go.RowKit
set_option linter.unusedVariables false
set_option linter.unusedSimpArgs false

set_option maxRecDepth 100000 in
set_option maxHeartbeats 400000 in
theorem begin_any (A B : Option Addr) (n m c c' : Nat) (d e : List ClS) (w : World) (hn : n = d.length) (hm : m = e.length) (h1 : RdCl w w.heap.size A d) (h2 : RdCl w w.heap.size B e) (k1 : n ≤ c) (k2 : m ≤ c') (b1 : n ≤ 1000000) (b2 : m ≤ 1000000) (p1 : 1 ≤ n) (p2 : 1 ≤ m)
    (hs1 : ∀ x ∈ d, x.c.s.length ≤ 140737488355328) (hs2 : ∀ x ∈ e, x.c.s.length ≤ 140737488355328) :
    Calls Tryz.prog 60 #[.slice A n c, .slice B m c'] w fun x w' => x = .returned (.int .i64 (begD (clsOf d) (clsOf e))) ∧ Below w.heap.size w w' := by
  have N := Lib.hid hn
  have M := Lib.hid hm
  have H1 := Lib.hid h1
  have H2 := Lib.hid h2
  have S1 := Lib.hid hs1
  have S2 := Lib.hid hs2
  obtain ⟨K, hK⟩ : ∃ K, min n m = K := ⟨_, rfl⟩
  have HK := Lib.hid hK
  have ek : min (n : Int) (m : Int) = (K : Int) := by omega
  generalize hR : begD (clsOf d) (clsOf e) = R
  have HR := Lib.hid hR
  clear hn hm h1 h2 hs1 hs2 hR hK
  go_enter Tryz.func60, Tryz.ntmps60
  go_wp2_with (fail)
  go_loopg [5] K (fun g iv wr => ∃ i : Nat, i ≤ K - 1 ∧ g = K - i ∧ iv = .int .i64 (i : Int) ∧ Below w.heap.size w wr ∧ Hid ((clsOf d).take i = (clsOf e).take i))
  case atStart => exact ⟨0, by omega, rfl, rfl, Below.refl _ _, Lib.hid rfl⟩
  case round =>
    obtain ⟨i, hi, hg, rfl, y, HI⟩ := hrel
    have HG := Lib.hid hg
    clear hg
    by_cases hlt : i < K - 1
    · have hl1 : i < d.length := by have := N.out; have := HK.out; omega
      have hl2 : i < e.length := by have := M.out; have := HK.out; omega
      obtain ⟨x, hx⟩ : ∃ x, d[i]? = some x := ⟨d[i], by rw [List.getElem?_eq_getElem hl1]⟩
      obtain ⟨z, hz⟩ : ∃ x, e[i]? = some x := ⟨e[i], by rw [List.getElem?_eq_getElem hl2]⟩
      have hdx : (d.drop i).take 1 = [x] := by rw [List.drop_eq_getElem_cons hl1]; rw [List.getElem?_eq_getElem hl1] at hx; injection hx with hx; rw [hx]; rfl
      have hez : (e.drop i).take 1 = [z] := by rw [List.drop_eq_getElem_cons hl2]; rw [List.getElem?_eq_getElem hl2] at hz; injection hz with hz; rw [hz]; rfl
      obtain ⟨A8, hA8⟩ : ∃ X, advS A c i 2 = X := ⟨_, rfl⟩
      obtain ⟨B8, hB8⟩ : ∃ X, advS B c' i 2 = X := ⟨_, rfl⟩
      obtain ⟨c8, hc8⟩ : ∃ X, c - i = X := ⟨_, rfl⟩
      obtain ⟨c9, hc9⟩ : ∃ X, c' - i = X := ⟨_, rfl⟩
      have sl1 : ∀ W, (Instr.slice 23 (.slice A n c) (some (.int .i64 (i : Int))) (some (.int .i64 ((i : Int) + 1))) none).run Tryz.prog W = .ok (.slice A8 1 c8) W := sl_one hA8 hc8 (by have := HK.out; omega)
      have sl2 : ∀ W, (Instr.slice 23 (.slice B m c') (some (.int .i64 (i : Int))) (some (.int .i64 ((i : Int) + 1))) none).run Tryz.prog W = .ok (.slice B8 1 c9) W := sl_one hB8 hc9 (by have := HK.out; omega)
      have R8 : Hid (∀ v, Below w.heap.size w v → RdCl v v.heap.size A8 [x]) := Lib.hid (fun v hv => by
        have := ((H1.out.ext hv).from hA8 (by have := N.out; omega) (by have := N.out; omega)).take 1
        rwa [hdx] at this)
      have R9 : Hid (∀ v, Below w.heap.size w v → RdCl v v.heap.size B8 [z]) := Lib.hid (fun v hv => by
        have := ((H2.out.ext hv).from hB8 (by have := M.out; omega) (by have := M.out; omega)).take 1
        rwa [hez] at this)
      have SX := Lib.hid (S1.out x (List.mem_of_getElem? hx))
      have SZ := Lib.hid (S2.out z (List.mem_of_getElem? hz))
      have CX := Lib.hid (clsOf_at hx)
      have CZ := Lib.hid (clsOf_at hz)
      have e0 : (i : Int) < (K : Int) - 1 := by omega
      have e1 : (i : Int) ≤ 1000000 := by omega
      have e2 : (K : Int) ≤ 1000000 := by have := HK.out; omega
      have hw1 := Lib.hid (IntWalk.i64_in ((K : Int) - 1) (by omega))
      have hw0 := Lib.hid (w64_in ((i : Int) + 1) (by omega))
      have hw2 := Lib.hid (IntWalk.i64_in ((i : Int) + 1) (by omega))
      have hw3 := Lib.hid (w64_in ((K : Int) - 1) (by omega))
      have Y := Lib.hid y
      clear hx hz hdx hez hA8 hB8 hc8 hc9 hl1 hl2 y
      generalize hs : decide (clsOf [x] = clsOf [z]) = S
      have HS := Lib.hid hs
      clear hs
      replace hw0 := hw0.out
      replace hw1 := hw1.out
      replace hw2 := hw2.out
      replace hw3 := hw3.out
      go_wp2_with (fail)
      go_region_held3 (fun w' => True) (go_keep) (first
       | (go_at_call 19
          with_reducible refine (cellsSame_any A8 B8 1 1 c8 c9 [x] [z] wr.drew rfl rfl (R8.out _ (up_drew Y.out)) (R9.out _ (up_drew Y.out)) (by omega) (by omega) (fun q hq => by simp at hq; subst hq; exact SX.out) (fun q hq => by simp at hq; subst hq; exact SZ.out)).mono ?_
          rw [HS.out]
          rintro r w2 ⟨rfl, y2⟩))
      have Y3 := ext_trans Y.out (ext_trans (ext_drew wr 1) y2)
      cases S with
      | true =>
        have hxz : x.c = z.c := by have := of_decide_eq_true HS.out; simpa [clsOf] using this
        have HI2 : Hid ((clsOf d).take (i + 1) = (clsOf e).take (i + 1)) := Lib.hid (by rw [List.take_add_one, List.take_add_one, HI.out, CX.out, CZ.out, hxz])
        clear hw0 hw1 hw3
        go_wp2_with (fail)
        go_roundg (K - (i + 1))
        case measure => have := HG.out; clear hw2; omega
        case rel => exact ⟨i + 1, by clear hw2; omega, rfl, by go_num, Y3, HI2⟩
      | false =>
        have hxz : x.c ≠ z.c := by have := of_decide_eq_false HS.out; simpa [clsOf] using this
        have hR : R = i := by
          rw [← HR.out]
          unfold begD
          have hd : (clsOf d).drop i = x.c :: (clsOf d).drop (i + 1) := by
            obtain ⟨hl, hv⟩ := List.getElem?_eq_some_iff.1 CX.out
            rw [List.drop_eq_getElem_cons hl, hv]
          have he : (clsOf e).drop i = z.c :: (clsOf e).drop (i + 1) := by
            obtain ⟨hl, hv⟩ := List.getElem?_eq_some_iff.1 CZ.out
            rw [List.drop_eq_getElem_cons hl, hv]
          have hk := cpl_at i (clsOf d) (clsOf e) (by rw [clsOf_len]; have := N.out; have := HK.out; clear hw0 hw1 hw2 hw3; omega) (by rw [clsOf_len]; have := M.out; have := HK.out; clear hw0 hw1 hw2 hw3; omega) HI.out
          rw [hd, he, cpl_cons_ne hxz] at hk
          rw [hk, clsOf_len, clsOf_len, ← N.out, ← M.out, HK.out]
          clear hw0 hw1 hw2 hw3
          omega
        have HRI := Lib.hid hR
        clear hw0 hw1 hw2 hw3 hR
        go_wp2_with (fail)
        go_ret
        exact ⟨ret_int (by rw [HRI.out]), Y3⟩
    · have e0 : (K : Int) - 1 ≤ (i : Int) := by omega
      have e1 : decide ((i : Int) < (K : Int) - 1) = false := decide_eq_false (by omega)
      have hR : R = i := by
        rw [← HR.out]
        unfold begD
        have hk := cpl_at i (clsOf d) (clsOf e) (by rw [clsOf_len]; have := N.out; have := HK.out; omega) (by rw [clsOf_len]; have := M.out; have := HK.out; omega) HI.out
        rw [hk, clsOf_len, clsOf_len, ← N.out, ← M.out, HK.out]
        omega
      have HRI := Lib.hid hR
      clear hR
      have hw1 : IntKind.i64.wrap ((K:Int) - 1) = (K : Int) - 1 := IntWalk.i64_in _ (by have := HK.out; omega)
      have hw3 := w64_in ((K:Int) - 1) (by have := HK.out; clear hw1; omega)
      go_wp2_with (fail)
      go_quiet (fail)
      clear hw1 hw3
      go_wp2_with (fail)
      go_ret
      exact ⟨ret_int (by rw [HRI.out]), ext_trans y (ext_drew _ _)⟩
end Go.Proofs.YtipoeidmblnbbaaGreatDoor
/- The walks of diff.end. -/
namespace Go.Proofs.YtipoeidmblnbbaaGreatDoor
open Go.RowKit
set_option linter.unusedVariables false
set_option linter.unusedSimpArgs false

set_option maxRecDepth 100000 in
set_option maxHeartbeats 1600000 in
theorem end_any (A B : Option Addr) (n m c c' : Nat) (d e : List ClS) (w : World) (hn : n = d.length) (hm : m = e.length) (h1 : RdCs w w.heap.size A d) (h2 : RdCs w w.heap.size B e) (b1 : n ≤ 1000000) (b2 : m ≤ 1000000) (p1 : 1 ≤ n) (p2 : 1 ≤ m) :
    Calls Tryz.prog 61 #[.slice A n c, .slice B m c'] w (Quiet (.int .i64 (endD (clsOf d) (clsOf e))) w) := by
  have N := Lib.hid hn
  have M := Lib.hid hm
  have H1 := Lib.hid h1
  have H2 := Lib.hid h2
  obtain ⟨K, hK⟩ : ∃ K, min n m = K := ⟨_, rfl⟩
  have HK := Lib.hid hK
  have ek : min (n : Int) (m : Int) = (K : Int) := by omega
  have L1 := Lib.hid (clsOf_len d)
  have L2 := Lib.hid (clsOf_len e)
  generalize hR : endD (clsOf d) (clsOf e) = R
  have HR := Lib.hid hR
  clear hn hm h1 h2 hR hK
  go_enter Tryz.func61, Tryz.ntmps61
  go_wp2_with (fail)
  go_step3
  go_wp2_with (fail)
  go_step3
  go_wp2_with (fail)
  go_loopg [5] (K - 1) (fun g iv wr => ∃ i : Nat, 1 ≤ i ∧ i ≤ K ∧ g = K - i ∧ iv = .int .i64 (i : Int) ∧ (∃ q, wr = w.drewN q) ∧ Hid (endD (clsOf d) (clsOf e) = i + cpl (((clsOf d).reverse.drop i).map (·.r)) (((clsOf e).reverse.drop i).map (·.r))))
  case atStart => exact ⟨1, by omega, by have := HK.out; omega, rfl, rfl, ⟨0, rfl⟩, Lib.hid rfl⟩
  case round =>
    obtain ⟨i, hi1, hi, hg, rfl, ⟨q, rfl⟩, HI⟩ := hrel
    have HG := Lib.hid hg
    clear hg
    have hw2 : IntKind.i64.wrap ((i:Int) + 1) = (i : Int) + 1 := IntWalk.i64_in _ (by omega)
    by_cases hlt : i < K
    · have hl1 : n - 1 - i < d.length := by have := N.out; have := HK.out; omega
      have hl2 : m - 1 - i < e.length := by have := M.out; have := HK.out; omega
      obtain ⟨ad, x, rfl, _, _, hx, hcx⟩ := H1.out.el hl1
      obtain ⟨ad2, z, rfl, _, _, hz, hcz⟩ := H2.out.el hl2
      have EA := Lib.hid (endD_at HI.out (by rw [L1.out]; have := N.out; have := HK.out; omega) (by rw [L2.out]; have := M.out; have := HK.out; omega) (a := x.c) (b := z.c) (by rw [L1.out, ← N.out]; exact clsOf_at hx) (by rw [L2.out, ← M.out]; exact clsOf_at hz))
      obtain ⟨⟨r1, s1⟩, As1, cs1⟩ := x
      obtain ⟨⟨r2, s2⟩, As2, cs2⟩ := z
      obtain ⟨z0, -⟩ := cl_cells hcx
      obtain ⟨u0, -⟩ := cl_cells hcz
      obtain ⟨j1, hj1⟩ : ∃ X, n - 1 - i = X := ⟨_, rfl⟩
      obtain ⟨j2, hj2⟩ : ∃ X, m - 1 - i = X := ⟨_, rfl⟩
      rw [hj1] at z0
      rw [hj2] at u0
      have e3 : (n : Int) - 1 - (i : Int) = (j1 : Int) := by have := HK.out; omega
      have e4 : (m : Int) - 1 - (i : Int) = (j2 : Int) := by have := HK.out; omega
      have q1 : IntKind.i64.wrap ((n : Int) - 1) = (n : Int) - 1 := IntWalk.i64_in _ (by omega)
      have q2 : IntKind.i64.wrap ((m : Int) - 1) = (m : Int) - 1 := IntWalk.i64_in _ (by omega)
      have q3 : IntKind.i64.wrap ((n : Int) - 1 - (i : Int)) = (j1 : Int) := by rw [e3]; exact IntWalk.i64_in _ (by omega)
      have q4 : IntKind.i64.wrap ((m : Int) - 1 - (i : Int)) = (j2 : Int) := by rw [e4]; exact IntWalk.i64_in _ (by omega)
      have q5 : j1 < n := by have := HK.out; omega
      have q6 : j2 < m := by have := HK.out; omega
      have hlt' : (i : Int) < (K : Int) := by omega
      clear hcx hcz hx hz hl1 hl2 hj1 hj2 e3 e4
      by_cases hr : r1 = r2
      · subst hr
        have hne : (r1 != r1) = false := by simp
        have HI2 := Lib.hid (EA.out.2 rfl)
        clear EA HI
        go_wp2_with (fail)
        go_quiet (fail)
        go_wp2_with (fail)
        go_roundg (K - (i + 1))
        case measure => have := HG.out; omega
        case rel => exact ⟨i + 1, by omega, by omega, rfl, by go_num, ⟨_, rfl⟩, HI2⟩
      · have hne : (r1 != r2) = true := by simp [hr]
        have HI2 := Lib.hid (EA.out.1 hr)
        clear EA HI hr
        go_wp2_with (fail)
        go_quiet (fail)
        go_wp2_with (fail)
        go_ret
        exact ⟨ret_int (by rw [← HR.out, HI2.out]), _, World.drewN_drewN _ _ _⟩
    · have hlt' : ¬ (i : Int) < (K : Int) := by omega
      have HE := Lib.hid (endD_over HI.out (by rw [L1.out, L2.out]; have := N.out; have := M.out; have := HK.out; omega))
      go_wp2_with (fail)
      go_ret
      exact ⟨ret_int (by rw [← HR.out, HE.out]), _, rfl⟩
end Go.Proofs.YtipoeidmblnbbaaGreatDoor
/- A maker that a call has made. -/
namespace Go.Proofs.YtipoeidmblnbbaaGreatDoor
open Go.RowKit
set_option linter.unusedVariables false
set_option linter.unusedSimpArgs false

/-- a maker that this call has made -/
def MkIn (w wr : World) (b : Nat) (m : Mk) : Prop := ∃ F, Mkr wr F b m ∧ (∀ k, F k → w.heap.size ≤ k) ∧ Below w.heap.size w wr
theorem MkIn.out {w wr w2 : World} {b : Nat} {m2 : Mk} {F F2 : Nat → Prop} (hF : ∀ k, F k → w.heap.size ≤ k) (y : Below w.heap.size w wr) (h2 : Mkr w2 F2 b m2) (g : Grow wr F w2 F2) : MkIn w w2 b m2 :=
  ⟨F2, h2, g.low hF y.size, y.trans (g.below hF y.size)⟩
theorem MkIn.more {w wr w2 : World} {b : Nat} {m : Mk} {F : Nat → Prop} (hF : ∀ k, F k → w.heap.size ≤ k) (y : Below w.heap.size w wr) (h : Mkr wr F b m) (y2 : Below wr.heap.size wr w2) : MkIn w w2 b m :=
  ⟨F, h.below y2, hF, ext_trans y y2⟩
end Go.Proofs.YtipoeidmblnbbaaGreatDoor
/- The walk of diff.Diff at documents that may be. -/
namespace Go.Proofs.YtipoeidmblnbbaaGreatDoor
open Go.RowKit
set_option linter.unusedVariables false
set_option linter.unusedSimpArgs false

/-- ops of the call's own, and no error -/
def NewOpsOk (o : List Opd) (w : World) (e : Ending) (w' : World) : Prop :=
  ∃ A c l, e = .returned (.tuple #[.slice A l.length c, .int .i64 0]) ∧ osOf l = o ∧ OwOs w' w.heap.size (.slice A l.length c) l ∧ (∀ x ∈ l, ∃ g, PartN w' w.heap.size g x) ∧ Below w.heap.size w w'
theorem tellM_B (n : Nat) (e1 : List Cl) (he : ∀ c ∈ e1, c.s.length ≤ 128) : MkB (tellM (mkRetain Mk.new n []) e1) (2 + e1.length) 128 := by
  have h0 := (MkB.new 128).retain (n : Int) (p := []) (by simp)
  have := h0.tellD e1 he
  rwa [show 0 + 2 + e1.length = 2 + e1.length by omega] at this

set_option maxRecDepth 100000 in
set_option maxHeartbeats 6400000 in
theorem cdiff_ok (s : Nat) (l : List Ky) (A1 A2 : Option Addr) (n1 n2 c1 c2 : Nat) (d e : List ClS) (w : World) (hn1 : n1 = d.length) (hn2 : n2 = e.length) (h1 : RdCl w w.heap.size A1 d) (h2 : RdCl w w.heap.size A2 e) (k1 : n1 ≤ c1) (k2 : n2 ≤ c2)
    (b1 : n1 ≤ 100000) (b2 : n2 ≤ 100000) (hS : Sch w s l) (q1 : ∀ x ∈ d, x.c.s.length ≤ 100000000 ∧ okVr x.c.s) (q2 : ∀ x ∈ e, x.c.s.length ≤ 100000000 ∧ okVr x.c.s) (g1 : ∀ x ∈ d, x.c.s.length ≤ x.cs ∧ x.cs ≤ maxLen)
    (hT : Lib.Utf8Tabs 1 2 w) (m1 : mayD l (clsOf d) = 0) (m2 : mayD l (clsOf e) = 0) :
    Calls Tryz.prog 24 #[.pointer (some ⟨s, 0, none⟩), .slice A1 n1 c1, .slice A2 n2 c2] w (NewOpsOk (mkOps (diffM (clsOf d) (clsOf e))) w) := by
  have N1 := Lib.hid hn1
  have N2 := Lib.hid hn2
  have H1 := Lib.hid h1
  have H2 := Lib.hid h2
  have Q1 := Lib.hid q1
  have Q2 := Lib.hid q2
  have G1 := Lib.hid g1
  have M1 := Lib.hid m1
  have M2 := Lib.hid m2
  obtain ⟨_, D1, D2⟩ := mayD_iff.1 m1
  obtain ⟨_, E1, E2⟩ := mayD_iff.1 m2
  have dne : clsOf d ≠ [] := by obtain ⟨t, c, h, _⟩ := D2; rw [h]; simp
  have ene : clsOf e ≠ [] := by obtain ⟨t, c, h, _⟩ := E2; rw [h]; simp
  have p1 : 1 ≤ n1 := by have := List.length_pos_iff.2 dne; rw [clsOf_len] at this; omega
  have p2 : 1 ≤ n2 := by have := List.length_pos_iff.2 ene; rw [clsOf_len] at this; omega
  have SD : Hid (∀ x ∈ d, x.c.s.length ≤ 64 ∧ riseA x.c.s = true) := Lib.hid (fun x hx => by
    obtain ⟨_, h2, _⟩ := D1 x.c (by unfold clsOf; exact List.mem_map_of_mem hx)
    obtain ⟨h3, h4, _⟩ := mayS_zero h2
    exact ⟨h3, h4⟩)
  have SE : Hid (∀ x ∈ e, x.c.s.length ≤ 64 ∧ riseA x.c.s = true) := Lib.hid (fun x hx => by
    obtain ⟨_, h2, _⟩ := E1 x.c (by unfold clsOf; exact List.mem_map_of_mem hx)
    obtain ⟨h3, h4, _⟩ := mayS_zero h2
    exact ⟨h3, h4⟩)
  have DNE := Lib.hid dne
  have ENE := Lib.hid ene
  clear hn1 hn2 h1 h2 q1 q2 g1 m1 m2 D1 D2 E1 E2 dne ene
  go_enter Tryz.func24, Tryz.ntmps24
  go_wp2_with (first
    | (go_at_call 14; with_reducible refine (mayCells_any s l A1 n1 c1 d w N1.out H1.out (by omega) hS Q1.out hT).mono ?_; rw [M1.out]; rintro r w1 ⟨rfl, y1⟩; have Y1 := Lib.hid y1; clear y1)
    | (go_at_call 14; refine (mayCells_any s l A2 n2 c2 e w1 N2.out (H2.out.ext Y1.out) (by omega) (hS.ext Y1.out) Q2.out (Utf8Tabs_below hT Y1.out)).mono ?_; rw [M2.out]; rintro r w2 ⟨rfl, y2⟩; have Y2 := Lib.hid (ext_trans Y1.out y2); clear y2)
    | (go_at_call 60; refine Hid.out ?_))
  refine Lib.hid ?_
  refine (begin_any A1 A2 n1 n2 c1 c2 d e w2 N1.out N2.out (H1.out.ext Y2.out) (H2.out.ext Y2.out) k1 k2 (by omega) (by omega) p1 p2 (fun x hx => by have := (SD.out x hx).1; omega) (fun x hx => by have := (SE.out x hx).1; omega)).mono ?_
  have BL := Lib.hid (begD_le DNE.out ENE.out)
  have hdm : diffM (clsOf d) (clsOf e) = retsM (diffM1 (begD (clsOf d) (clsOf e)) ((clsOf d).drop (begD (clsOf d) (clsOf e))) ((clsOf e).drop (begD (clsOf d) (clsOf e)))) _ := rfl
  have HDM := Lib.hid hdm
  clear hdm
  generalize begD (clsOf d) (clsOf e) = n at *
  rintro r w3 ⟨rfl, y3⟩
  have Y3 := Lib.hid (ext_trans Y2.out y3)
  have NL : Hid (n < n1 ∧ n < n2) := Lib.hid (by have := BL.out; rw [clsOf_len, clsOf_len, ← N1.out, ← N2.out] at this; exact this)
  clear y3
  go_wp2_with (go_at_call 51; refine Hid.out ?_)
  refine Lib.hid ?_
  refine (mkNew_any w3).mono ?_
  rintro r w4 ⟨rfl, hm, y4⟩
  have HM4 := Lib.hid hm
  have Y4 := Lib.hid (ext_trans Y3.out y4)
  obtain ⟨b, hb⟩ : ∃ b, w3.heap.size = b := ⟨_, rfl⟩
  rw [hb] at HM4
  have HB : Hid (w.heap.size ≤ b) := Lib.hid (by rw [← hb]; exact Y3.out.size)
  clear y4 hm
  rw [hb]
  clear hb
  go_wp2_with (go_at_call 52; refine Hid.out ?_)
  refine Lib.hid ?_
  refine (mkRetain_any b none n 0 0 [] w4 _ Mk.new HM4.out rfl Rd.nil OffF.zero (by omega) (by simp [Mk.new]) (fun o ho => by simp [Mk.new, mkGap] at ho)).mono ?_
  rintro r w5 ⟨rfl, F5, hm5, g5⟩
  have MI5 := Lib.hid (MkIn.out (w := w) (fun k hk => by have := HB.out; omega) Y4.out hm5 g5)
  clear hm5 g5
  -- the slices behind the beginning
  obtain ⟨A8, hA8⟩ : ∃ X, advS A1 c1 n 2 = X := ⟨_, rfl⟩
  obtain ⟨A9, hA9⟩ : ∃ X, advS A2 c2 n 2 = X := ⟨_, rfl⟩
  obtain ⟨c8, hc8⟩ : ∃ X, c1 - n = X := ⟨_, rfl⟩
  obtain ⟨c9, hc9⟩ : ∃ X, c2 - n = X := ⟨_, rfl⟩
  obtain ⟨n8, hn8⟩ : ∃ X, n1 - n = X := ⟨_, rfl⟩
  obtain ⟨n9, hn9⟩ : ∃ X, n2 - n = X := ⟨_, rfl⟩
  have sl1 : ∀ W, (Instr.slice 23 (.slice A1 n1 c1) (some (.int .i64 (n : Int))) none none).run Tryz.prog W = .ok (.slice A8 n8 c8) W := sl_from Tryz.slCl Tryz.elCl size_cl rfl hA8 hn8 hc8 (by have := NL.out; omega) k1
  have sl2 : ∀ W, (Instr.slice 23 (.slice A2 n2 c2) (some (.int .i64 (n : Int))) none none).run Tryz.prog W = .ok (.slice A9 n9 c9) W := sl_from Tryz.slCl Tryz.elCl size_cl rfl hA9 hn9 hc9 (by have := NL.out; omega) k2
  have K8 : Hid (n8 ≤ c8) := Lib.hid (by omega)
  have K9 : Hid (n9 ≤ c9) := Lib.hid (by omega)
  have B8 : Hid (n8 ≤ 100000 ∧ 1 ≤ n8) := Lib.hid (by have := NL.out; omega)
  have B9 : Hid (n9 ≤ 100000 ∧ 1 ≤ n9) := Lib.hid (by have := NL.out; omega)
  have N8 : Hid (n8 = (d.drop n).length) := Lib.hid (by rw [List.length_drop, ← N1.out]; omega)
  have N9 : Hid (n9 = (e.drop n).length) := Lib.hid (by rw [List.length_drop, ← N2.out]; omega)
  have R8 : Hid (RdCl w w.heap.size A8 (d.drop n)) := Lib.hid (H1.out.from hA8 (by have := NL.out; have := N1.out; omega) (by have := N1.out; omega))
  have R9 : Hid (RdCl w w.heap.size A9 (e.drop n)) := Lib.hid (H2.out.from hA9 (by have := NL.out; have := N2.out; omega) (by have := N2.out; omega))
  have SD8 : Hid (∀ x ∈ d.drop n, x.c.s.length ≤ 64 ∧ riseA x.c.s = true) := Lib.hid (fun x hx => SD.out x (List.mem_of_mem_drop hx))
  have SE9 : Hid (∀ x ∈ e.drop n, x.c.s.length ≤ 64 ∧ riseA x.c.s = true) := Lib.hid (fun x hx => SE.out x (List.mem_of_mem_drop hx))
  have G8 : Hid (∀ x ∈ d.drop n, x.c.s.length ≤ x.cs ∧ x.cs ≤ maxLen) := Lib.hid (fun x hx => G1.out x (List.mem_of_mem_drop hx))
  have HDM' : Hid (diffM (clsOf d) (clsOf e) = retsM (mkDelete (tellM (mkRetain Mk.new n []) (clsOf ((e.drop n).take (n9 - endD (clsOf (d.drop n)) (clsOf (e.drop n)))))) ((n8 : Int) - (endD (clsOf (d.drop n)) (clsOf (e.drop n)) : Nat)))
      ((clsOf ((d.drop n).drop (n8 - endD (clsOf (d.drop n)) (clsOf (e.drop n))))).zip (clsOf ((e.drop n).drop (n9 - endD (clsOf (d.drop n)) (clsOf (e.drop n))))))) := Lib.hid (by
    have h8 : n8 = (clsOf (d.drop n)).length := by rw [clsOf_len]; exact N8.out
    have h9 : n9 = (clsOf (e.drop n)).length := by rw [clsOf_len]; exact N9.out
    rw [clsOf_drop (d.drop n), clsOf_drop (e.drop n), clsOf_take (e.drop n), h8, h9, clsOf_drop d, clsOf_drop e]
    exact HDM.out)
  clear hA8 hA9 hc8 hc9 hn8 hn9 SD SE G1 N1 N2 H1 H2 Q1 Q2 HDM BL NL
  have EL : Hid (1 ≤ endD (clsOf (d.drop n)) (clsOf (e.drop n)) ∧ endD (clsOf (d.drop n)) (clsOf (e.drop n)) ≤ n8 ∧ endD (clsOf (d.drop n)) (clsOf (e.drop n)) ≤ n9) := Lib.hid (by
    have h1 : clsOf (d.drop n) ≠ [] := fun h => by have := congrArg List.length h; rw [clsOf_len] at this; have := N8.out; have := B8.out; simp at *; omega
    have h2 : clsOf (e.drop n) ≠ [] := fun h => by have := congrArg List.length h; rw [clsOf_len] at this; have := N9.out; have := B9.out; simp at *; omega
    have := endD_le h1 h2
    rw [clsOf_len, clsOf_len, ← N8.out, ← N9.out] at this
    exact this)
  generalize d.drop n = d8 at *
  generalize e.drop n = e9 at *
  go_wp2_with (fail)
  go_quiet (fail)
  obtain ⟨F5, mk5, low5, y5⟩ := MI5.out
  have MI6 := Lib.hid (MkIn.more low5 y5 mk5 (ext_drew _ nq))
  have Y6 := Lib.hid (ext_trans y5 (ext_drew _ nq))
  clear MI5 mk5 low5 y5 F5
  generalize World.drewN w5 nq = w6 at *
  go_wp2_with (go_at_call 61; refine Hid.out ?_)
  refine Lib.hid ?_
  refine (end_any A8 A9 n8 n9 c8 c9 d8 e9 w6 N8.out N9.out (R8.out.ext Y6.out).1 (R9.out.ext Y6.out).1 (by have := B8.out; omega) (by have := B9.out; omega) B8.out.2 B9.out.2).mono ?_
  generalize endD (clsOf d8) (clsOf e9) = k at *
  rintro r w7 ⟨rfl, q7, rfl⟩
  obtain ⟨F6, mk6, low6, y6⟩ := MI6.out
  have MI7 := Lib.hid (MkIn.more low6 y6 mk6 (ext_drew _ q7))
  have Y7 := Lib.hid (ext_trans y6 (ext_drew _ q7))
  clear MI6 mk6 low6 y6 F6 Y6
  generalize World.drewN w6 q7 = w7 at *
  obtain ⟨na, hna⟩ : ∃ X, n9 - k = X := ⟨_, rfl⟩
  obtain ⟨nb, hnb⟩ : ∃ X, n8 - k = X := ⟨_, rfl⟩
  have wa : wrap64 ((n9 : Int) - (k : Int)) = (na : Int) := by
    rw [show (n9 : Int) - (k : Int) = (na : Int) by have := EL.out; omega]; exact w64_in _ (by have := B9.out; omega)
  have wb' : wrap64 ((n8 : Int) - (k : Int)) = (nb : Int) := by
    rw [show (n8 : Int) - (k : Int) = (nb : Int) by have := EL.out; omega]; exact w64_in _ (by have := B8.out; omega)
  have sl3 : ∀ W, (Instr.slice 23 (.slice A9 n9 c9) none (some (.int .i64 (na : Int))) none).run Tryz.prog W = .ok (.slice A9 na c9) W := sl_to (l := na) Tryz.slCl Tryz.elCl size_cl rfl (by have := K9.out; omega)
  have NA : Hid (na = (e9.take na).length) := Lib.hid (by rw [List.length_take, ← N9.out]; omega)
  have RA := Lib.hid (R9.out.take na)
  have SA : Hid (∀ x ∈ e9.take na, x.c.s.length ≤ 64 ∧ riseA x.c.s = true) := Lib.hid (fun x hx => SE9.out x (List.mem_of_mem_take hx))
  have TB : Hid (∀ i, MkB (tellM (mkRetain Mk.new n []) ((clsOf (e9.take na)).take i)) (2 + na) 128) := Lib.hid (fun i => by
    have := tellM_B n ((clsOf (e9.take na)).take i) (fun c hc => by
      have hc := List.mem_of_mem_take hc
      unfold clsOf at hc
      obtain ⟨x, hx, rfl⟩ := List.mem_map.1 hc
      have := (SA.out x hx).1; omega)
    refine this.mono ?_ (Nat.le_refl _)
    have h2 : ((clsOf (e9.take na)).take i).length ≤ na := by
      rw [List.length_take, clsOf_len, ← NA.out]; exact Nat.min_le_right _ _
    omega)
  have HDM2 : Hid (diffM (clsOf d) (clsOf e) = retsM (mkDelete (tellM (mkRetain Mk.new n []) (clsOf (e9.take na))) (nb : Int)) ((clsOf (d8.drop nb)).zip (clsOf (e9.drop na)))) := Lib.hid (by
    rw [← hna, ← hnb]
    rw [show ((n8 - k : Nat) : Int) = (n8 : Int) - (k : Int) by have := EL.out; omega]
    exact HDM'.out)
  have KE : Hid (k ≤ n8 ∧ k ≤ n9 ∧ n8 = nb + k ∧ n9 = na + k ∧ 1 ≤ k) := Lib.hid (by have := EL.out; omega)
  clear hna hnb HDM' EL
  go_wp2_with (fail)
  simp only [wa]
  go_loopg [12, 47] na (fun g cv iv wr => ∃ (i : Nat), i ≤ na ∧ g = na - i ∧ iv = .int .i64 (i : Int) ∧ MkIn w wr b (tellM (mkRetain Mk.new n []) ((clsOf (e9.take na)).take i)))
  case atStart => exact ⟨0, by omega, rfl, rfl, MI7.out⟩
  case round =>
    obtain ⟨i, hi, hg, rfl, F', hm, low, y⟩ := hrel
    have HG := Lib.hid hg
    have HM := Lib.hid hm
    have LOW := Lib.hid low
    clear hg hm low MI7 Y7
    by_cases hlt : i < na
    · clear HDM2
      have hl1 : i < (e9.take na).length := by have := NA.out; omega
      obtain ⟨ad, x, rfl, had, _, hx, hc1⟩ := (RA.out.ext y).1.el hl1
      have hxm := List.mem_of_getElem? hx
      have hxc : (clsOf (e9.take na))[i]? = some x.c := clsOf_at hx
      have HT : Hid (tellM (mkRetain Mk.new n []) ((clsOf (e9.take na)).take (i + 1)) = mkInsert (tellM (mkRetain Mk.new n []) ((clsOf (e9.take na)).take i)) [x.c.r] x.c.s) := Lib.hid (by rw [List.take_add_one, hxc]; exact tellM_snoc _ _ _)
      have RS := Lib.hid ((RA.out.2 x hxm).ext y)
      have SL := Lib.hid (SA.out x hxm).1
      have KB := Lib.hid (TB.out i)
      have BN := Lib.hid (show na ≤ 100000 by have := B9.out; have := KE.out; omega)
      obtain ⟨⟨r, s'⟩, As, cs⟩ := x
      obtain ⟨z0, z1⟩ := cl_cells hc1
      clear hx hxm hxc hl1 hc1 had
      have ya := ext_alloc wr (.cells #[.int .i32 r, .slice As s'.length cs] 59)
      have yb := ext_alloc (wr.alloc (.cells #[.int .i32 r, .slice As s'.length cs] 59)) (.cells #[.int .i32 r] 21)
      have Y := Lib.hid (ext_trans ya yb)
      have hw2 : IntKind.i64.wrap ((i:Int) + 1) = (i : Int) + 1 := IntWalk.i64_in _ (by have := BN.out; omega)
      clear ya yb
      go_wp2_with (go_at_call 53; refine Hid.out ?_)
      refine Lib.hid ?_
      refine (mkInsert_any b _ As 1 1 s'.length cs [r] s' _ F' _ (HM.out.below Y.out) rfl rfl (by rw [World.size_alloc]; exact rd_one_at (enc := encI32) (size := 1) (wr.alloc (.cells #[.int .i32 r, .slice As s'.length cs] 59)) 21 r rfl (by simp)) (RS.out.ext Y.out) (by omega) (by have := SL.out; omega) (by have := KB.out.len; have := BN.out; omega)
        (fun o ho => by have := KB.out.prt o (List.mem_append_right _ ho); have := BN.out; omega)).mono ?_
      rintro r w9 ⟨rfl, F3, hm3, g3⟩
      rw [← HT.out] at hm3
      have MI9 := Lib.hid (MkIn.out LOW.out (ext_trans y Y.out) hm3 g3)
      clear hm3 g3
      go_wp2_with (fail)
      go_roundg (na - (i + 1))
      case measure => have := HG.out; omega
      case rel => exact ⟨i + 1, by omega, rfl, by go_num, MI9.out⟩
    · have hin : i = na := by omega
      subst hin
      have hm := HM.out
      rw [List.take_of_length_le (by rw [clsOf_len]; have := NA.out; omega)] at hm
      have TBE := TB.out i
      rw [List.take_of_length_le (by rw [clsOf_len]; have := NA.out; omega)] at TBE
      have TBD := Lib.hid (TBE.delete (nb : Int))
      have HM0 := Lib.hid hm
      clear hm TBE TB HM HG hlt hi
      go_wp2_with (go_at_call 62; refine Hid.out ?_)
      refine Lib.hid ?_
      refine (mkDelete_any b (nb : Int) wr F' _ HM0.out).mono ?_
      generalize mkDelete (tellM (mkRetain Mk.new n []) (clsOf (e9.take i))) (nb : Int) = M3 at *
      rintro r w9 ⟨rfl, F9, hm9, g9⟩
      have MI9 := Lib.hid (MkIn.out LOW.out y hm9 g9)
      clear hm9 g9 HM0 LOW y F' F9
      obtain ⟨Aa, hAa⟩ : ∃ X, advS A8 c8 nb 2 = X := ⟨_, rfl⟩
      obtain ⟨Ab, hAb⟩ : ∃ X, advS A9 c9 i 2 = X := ⟨_, rfl⟩
      obtain ⟨ca, hca⟩ : ∃ X, c8 - nb = X := ⟨_, rfl⟩
      obtain ⟨cb, hcb⟩ : ∃ X, c9 - i = X := ⟨_, rfl⟩
      have sl4 : ∀ W, (Instr.slice 23 (.slice A8 n8 c8) (some (.int .i64 (nb : Int))) none none).run Tryz.prog W = .ok (.slice Aa k ca) W := sl_from Tryz.slCl Tryz.elCl size_cl rfl hAa (by have := KE.out; omega) hca (by have := KE.out; omega) K8.out
      have sl5 : ∀ W, (Instr.slice 23 (.slice A9 n9 c9) (some (.int .i64 (i : Int))) none none).run Tryz.prog W = .ok (.slice Ab k cb) W := sl_from Tryz.slCl Tryz.elCl size_cl rfl hAb (by have := KE.out; omega) hcb (by have := KE.out; omega) K9.out
      have LA : Hid ((d8.drop nb).length = k) := Lib.hid (by rw [List.length_drop, ← N8.out]; have := KE.out; omega)
      have LB : Hid ((e9.drop i).length = k) := Lib.hid (by rw [List.length_drop, ← N9.out]; have := KE.out; omega)
      have Ra : Hid (RdCl w w.heap.size Aa (d8.drop nb)) := Lib.hid (R8.out.from hAa (by have := N8.out; have := KE.out; omega) (by have := N8.out; have := K8.out; omega))
      have Rb : Hid (RdCl w w.heap.size Ab (e9.drop i)) := Lib.hid (R9.out.from hAb (by have := N9.out; have := KE.out; omega) (by have := N9.out; have := K9.out; omega))
      have SDa : Hid (∀ x ∈ d8.drop nb, x.c.s.length ≤ 64 ∧ riseA x.c.s = true) := Lib.hid (fun x hx => SD8.out x (List.mem_of_mem_drop hx))
      have SEb : Hid (∀ x ∈ e9.drop i, x.c.s.length ≤ 64 ∧ riseA x.c.s = true) := Lib.hid (fun x hx => SE9.out x (List.mem_of_mem_drop hx))
      have Ga : Hid (∀ x ∈ d8.drop nb, x.c.s.length ≤ x.cs ∧ x.cs ≤ maxLen) := Lib.hid (fun x hx => G8.out x (List.mem_of_mem_drop hx))
      have BK : Hid (k ≤ 100000 ∧ i ≤ 100000) := Lib.hid (by have := B8.out; have := B9.out; have := KE.out; omega)
      clear hAa hAb hca hcb R8 R9 SD8 SE9 G8 RA SA NA
      go_wp2_with (fail)
      go_quiet (fail)
      generalize d8.drop nb = da at *
      generalize e9.drop i = eb at *
      obtain ⟨F9, mk9, low9, y9⟩ := MI9.out
      have MIa := Lib.hid (MkIn.more low9 y9 mk9 (ext_drew _ nq))
      clear MI9 mk9 low9 y9 F9
      generalize World.drewN w9 nq = wa9 at *
      have ZL : Hid (((clsOf da).zip (clsOf eb)).length = k) := Lib.hid (by rw [List.length_zip, clsOf_len, clsOf_len, LA.out, LB.out]; omega)
      have ZB : Hid (∀ j, j ≤ k → MkB (retsM M3 (((clsOf da).zip (clsOf eb)).take j)) (2 + i + 2 * j) 128) := Lib.hid (fun j hj => by
        have := retsM_B TBD.out (((clsOf da).zip (clsOf eb)).take j) (fun x hx => by
          have hx := List.mem_of_mem_take hx
          obtain ⟨h1, h2⟩ := List.of_mem_zip (a := x.1) (b := x.2) hx
          unfold clsOf at h1 h2
          obtain ⟨u, hu, e1⟩ := List.mem_map.1 h1
          obtain ⟨v, hv, e2⟩ := List.mem_map.1 h2
          rw [← e1, ← e2]
          have := diff_len (SDa.out u hu).2 (SEb.out v hv).2
          have := (SDa.out u hu).1
          have := (SEb.out v hv).1
          omega)
        rw [List.length_take, ZL.out, Nat.min_eq_left hj] at this
        exact this)
      go_wp2_with (fail)
      try simp only [wa, wb']
      go_loopg [13, 79] k (fun g xv iv wr => ∃ (j : Nat), j ≤ k ∧ g = k - j ∧ iv = .int .i64 (j : Int) ∧ MkIn w wr b (retsM M3 (((clsOf da).zip (clsOf eb)).take j)))
      case atStart => exact ⟨0, by omega, rfl, rfl, MIa.out⟩
      case round =>
        obtain ⟨j, hj, hg, rfl, F', hm, low, y⟩ := hrel
        have HG := Lib.hid hg
        have HM := Lib.hid hm
        have LOW := Lib.hid low
        clear hg hm low MIa
        by_cases hlt : j < k
        · obtain ⟨ad, x, rfl, had, _, hx, hc1⟩ := Ra.out.1.el (i := j) (by rw [LA.out]; exact hlt)
          obtain ⟨ad2, z, rfl, had2, _, hz, hc2⟩ := Rb.out.1.el (i := j) (by rw [LB.out]; exact hlt)
          have hxm := List.mem_of_getElem? hx
          have hzm := List.mem_of_getElem? hz
          have hzz : ((clsOf da).zip (clsOf eb))[j]? = some (x.c, z.c) := by rw [List.getElem?_zip_eq_some]; exact ⟨clsOf_at hx, clsOf_at hz⟩
          have HT : Hid (retsM M3 (((clsOf da).zip (clsOf eb)).take (j + 1)) = mkRetain (retsM M3 (((clsOf da).zip (clsOf eb)).take j)) 1 (diffP x.c.s z.c.s)) := Lib.hid (by rw [List.take_add_one, hzz]; exact retsM_snoc _ _ _)
          have RX := Lib.hid (Ra.out.2 x hxm)
          have RZ := Lib.hid (Rb.out.2 z hzm)
          have SX := Lib.hid (SDa.out x hxm)
          have SZ := Lib.hid (SEb.out z hzm)
          have GX := Lib.hid (Ga.out x hxm)
          have KB := Lib.hid (ZB.out j (by omega))
          have DL := Lib.hid (diff_len SX.out.2 SZ.out.2)
          obtain ⟨⟨r1, s1⟩, As1, cs1⟩ := x
          obtain ⟨⟨r2, s2⟩, As2, cs2⟩ := z
          have HC1 := Lib.hid hc1
          have HC2 := Lib.hid hc2
          have SF : Hid (∀ v, Below w.heap.size w v → v.cell? { block := (ad.add (j * 2)).block, off := (ad.add (j * 2)).off + 1 } = some (.slice As1 s1.length cs1) ∧ v.cell? { block := (ad2.add (j * 2)).block, off := (ad2.add (j * 2)).off + 1 } = some (.slice As2 s2.length cs2)) := Lib.hid (fun v hv =>
            ⟨(cl_cells (HC1.out.keep (w' := v) fun q hq => hv.cell (by rw [hq, add_block]; exact had))).2, (cl_cells (HC2.out.keep (w' := v) fun q hq => hv.cell (by rw [hq, add_block]; exact had2))).2⟩)
          obtain ⟨u0, u1⟩ := SF.out wr y
          have hw2 : IntKind.i64.wrap ((j:Int) + 1) = (j : Int) + 1 := IntWalk.i64_in _ (by have := BK.out; omega)
          have hlt' : (j : Int) < (k : Int) := by omega
          have Y := Lib.hid y
          clear hx hz hxm hzm hzz hc1 hc2 had had2
          go_wp2_with (fail)
          go_region_held3 (fun w' => w'.cell? { block := (ad.add (j * 2)).block, off := (ad.add (j * 2)).off + 1 } = some (.slice As1 s1.length cs1) ∧ w'.cell? { block := (ad2.add (j * 2)).block, off := (ad2.add (j * 2)).off + 1 } = some (.slice As2 s2.length cs2))
            (go_keep) (first
              | (go_at_call 63
                 with_reducible refine (diff_any As1 As2 s1.length s2.length cs1 cs2 s1 s2 wr.drew rfl rfl (RX.out.ext (up_drew Y.out)) (RZ.out.ext (up_drew Y.out)) (by have := SX.out.1; omega) (by have := SZ.out.1; omega) GX.out.1 GX.out.2).mono ?_
                 rintro r wd ⟨A3, k3, rfl, o3, y3⟩
                 have O3 := Lib.hid o3
                 have Y3 := Lib.hid (ext_trans (up_drew Y.out) y3)
                 have YD := Lib.hid y3
                 obtain ⟨d0, d1⟩ := SF.out _ Y3.out
                 clear o3 y3)
              | (go_at_call 52
                 with_reducible refine (mkRetain_any b A3 1 (diffP s1 s2).length k3 (diffP s1 s2) wd F' (retsM M3 (((clsOf da).zip (clsOf eb)).take j)) ((HM.out.below (up_drew (Below.refl _ _))).below YD.out) rfl (O3.out.rd Ch.enc_len) (O3.out.offF Ch.enc_len rfl (fun k hk hF => by have := (O3.out.wb_lt k hk).1; have := HM.out.lt k hF; simp at *; omega)) (by have := DL.out; have := SX.out.1; have := SZ.out.1; omega)
                    (by have := KB.out.len; have := BK.out; omega) (fun o ho => by have := (KB.out.gap.2 o ho).2.2; omega)).mono ?_
                 rintro r we ⟨rfl, F4, hm4, g4⟩
                 have MI4 := Lib.hid (MkIn.out LOW.out Y3.out hm4 g4)
                 obtain ⟨_, _, _, Y4⟩ := MI4.out
                 obtain ⟨e0, e1⟩ := SF.out _ Y4))
          rw [← HT.out] at MI4
          go_wp2_with (fail)
          go_roundg (k - (j + 1))
          case measure => have := HG.out; omega
          case rel => exact ⟨j + 1, by omega, rfl, by go_num, MI4.out⟩
        · have hjk : j = k := by omega
          subst hjk
          have hm := HM.out
          rw [List.take_of_length_le (by rw [ZL.out]; omega), ← HDM2.out] at hm
          have KB := ZB.out j (by omega)
          rw [List.take_of_length_le (by rw [ZL.out]; omega), ← HDM2.out] at KB
          have HM1 := Lib.hid hm
          have KB1 := Lib.hid KB
          have hlt' : ¬ (j : Int) < (j : Int) := by omega
          clear hm KB ZB
          go_wp2_with (go_at_call 54; refine Hid.out ?_)
          refine Lib.hid ?_
          refine (mkOps_any b wr F' _ HM1.out (by have := KB1.out.len; have := BK.out; omega) (fun o ho => by have := KB1.out.gap.2 o ho; have := BK.out; omega)).mono ?_
          intro r wz hN
          obtain ⟨A2, c2, x2, rfl, o1, o2, o3, o4⟩ := hN.late y
          have OO := Lib.hid (And.intro o1 (And.intro o2 (And.intro o3 o4)))
          clear o1 o2 o3 o4 hN
          go_wp2_with (fail)
          refine bodyPost_ret (v := .tuple #[.slice A2 x2.length c2, .int .i64 0]) (by simp [results, Tryz.results24, go_sem]) rfl ?_
          exact ⟨A2, c2, x2, rfl, OO.out.1, OO.out.2.1, OO.out.2.2.1, OO.out.2.2.2⟩
end Go.Proofs.YtipoeidmblnbbaaGreatDoor
