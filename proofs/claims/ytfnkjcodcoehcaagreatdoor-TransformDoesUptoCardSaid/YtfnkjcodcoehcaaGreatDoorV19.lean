/- Merged texts: TraGap, PlanLaw, MapKV, PlanKit, PlanInv. -/
import Derived.Test.YtfnkjcodcoehcaaGreatDoorV18
import Derived.Test.YtfnkjcodcoehcaaGreatDoorV7
import Derived.Test.YtfnkjcodcoehcaaGreatDoorV6
namespace Go.Proofs.YtfnkjcodcoehcaaGreatDoor
open Go.RowKit
set_option linter.unusedVariables false
set_option linter.unusedSimpArgs false

def gapD (us : List Un) : Nat → List Un
  | 0 => us
  | g + 1 => ((gapD us g).dropWhile isIns).tail
def pastCell (f : Bool) (u : Option Un) (v : Un) : List Un :=
  match u, v with
  | some .del, _ => []
  | _, .del => [.del]
  | some (.ret p), .ret q => [.ret (pastP f q p)]
  | _, .ret q => [.ret q]
  | _, .ins _ _ => []
def rets (n : Nat) : List Un := List.replicate n (.ret [])
theorem dw_dw (us : List Un) : (us.dropWhile isIns).dropWhile isIns = us.dropWhile isIns := by
  induction us with
  | nil => rfl
  | cons u us ih =>
    cases h : isIns u
    · rw [List.dropWhile_cons_of_neg (by rw [h]; decide), List.dropWhile_cons_of_neg (by rw [h]; decide)]
    · rw [List.dropWhile_cons_of_pos h]; exact ih
theorem tw_dw (us : List Un) : (us.dropWhile isIns).takeWhile isIns = [] := by
  induction us with
  | nil => rfl
  | cons u us ih =>
    cases h : isIns u
    · rw [List.dropWhile_cons_of_neg (by rw [h]; decide), List.takeWhile_cons_of_neg (by rw [h]; decide)]
    · rw [List.dropWhile_cons_of_pos h]; exact ih
theorem dw_head : ∀ {us : List Un} {u : Un} {t : List Un}, us.dropWhile isIns = u :: t → isIns u = false
  | [], _, _, h => by cases h
  | x :: us, u, t, h => by
    cases hx : isIns x
    · rw [List.dropWhile_cons_of_neg (by rw [hx]; decide)] at h
      injection h with h1 h2
      rw [← h1]; exact hx
    · rw [List.dropWhile_cons_of_pos hx] at h
      exact dw_head h
theorem tra_gap (f : Bool) : ∀ (vs us : List Un) {v : Un} {t : List Un}, vs.dropWhile isIns = v :: t →
    traU f us vs = (if f = true then rets (us.takeWhile isIns).length ++ vs.takeWhile isIns else vs.takeWhile isIns ++ rets (us.takeWhile isIns).length) ++ (pastCell f (us.dropWhile isIns).head? v ++ traU f (us.dropWhile isIns).tail t)
  | [], us, v, t, h => by cases h
  | .ins r s :: vs, us, v, t, h => by
    have h' : vs.dropWhile isIns = v :: t := h
    have tw : (Un.ins r s :: vs).takeWhile isIns = .ins r s :: vs.takeWhile isIns := rfl
    rw [tw]
    cases f with
    | true =>
      rw [traU, if_pos rfl, if_pos rfl, tra_gap true vs _ h', if_pos rfl, tw_dw, dw_dw]
      simp [rets]
    | false =>
      rw [traU, if_neg (by decide), if_neg (by decide), tra_gap false vs us h', if_neg (by decide)]
      simp
  | .del :: vs, us, v, t, h => by
    have e : (Un.del :: vs).dropWhile isIns = .del :: vs := rfl
    have e2 : (Un.del :: vs).takeWhile isIns = [] := rfl
    rw [e] at h
    injection h with h1 h2
    subst h1 h2
    rw [e2]
    have g : (if f = true then rets (us.takeWhile isIns).length ++ [] else [] ++ rets (us.takeWhile isIns).length) = rets (us.takeWhile isIns).length := by split <;> simp
    rw [g, traU]
    unfold rets
    congr 1
    cases hd : us.dropWhile isIns with
    | nil => rfl
    | cons u us' =>
      cases u with
      | ins r s => have := dw_head hd; cases this
      | del => rfl
      | ret p => rfl
  | .ret q :: vs, us, v, t, h => by
    have e : (Un.ret q :: vs).dropWhile isIns = .ret q :: vs := rfl
    have e2 : (Un.ret q :: vs).takeWhile isIns = [] := rfl
    rw [e] at h
    injection h with h1 h2
    subst h1 h2
    rw [e2]
    have g : (if f = true then rets (us.takeWhile isIns).length ++ [] else [] ++ rets (us.takeWhile isIns).length) = rets (us.takeWhile isIns).length := by split <;> simp
    rw [g, traU]
    unfold rets
    congr 1
    have pn : pastP f q [] = q := past_nil f q
    cases hd : us.dropWhile isIns with
    | nil => simp [pastCell, pn]
    | cons u us' =>
      cases u with
      | ins r s => have := dw_head hd; cases this
      | del => simp [pastCell]
      | ret p => simp [pastCell]
theorem tra_last (f : Bool) : ∀ (vs us : List Un), vs.dropWhile isIns = [] →
    ∃ n, (if f = true then rets (us.takeWhile isIns).length ++ vs.takeWhile isIns else vs.takeWhile isIns ++ rets (us.takeWhile isIns).length) = traU f us vs ++ rets n
  | [], us, h => ⟨(us.takeWhile isIns).length, by rw [traU_nil]; cases f <;> simp⟩
  | .ins r s :: vs, us, h => by
    have h' : vs.dropWhile isIns = [] := h
    have tw : (Un.ins r s :: vs).takeWhile isIns = .ins r s :: vs.takeWhile isIns := rfl
    rw [tw]
    cases f with
    | true =>
      obtain ⟨n, hn⟩ := tra_last true vs (us.dropWhile isIns) h'
      rw [if_pos rfl, tw_dw] at hn
      refine ⟨n, ?_⟩
      rw [if_pos rfl, traU, if_pos rfl]
      have hn' : vs.takeWhile isIns = traU true (us.dropWhile isIns) vs ++ rets n := by simpa [rets] using hn
      rw [hn']
      simp [rets]
    | false =>
      obtain ⟨n, hn⟩ := tra_last false vs us h'
      rw [if_neg (by decide)] at hn
      refine ⟨n, ?_⟩
      rw [if_neg (by decide), traU, if_neg (by decide)]
      rw [List.cons_append, hn]; rfl
  | .del :: vs, us, h => by cases h
  | .ret q :: vs, us, h => by cases h

def insPl : List OpS → Nat → List OpS
  | [], _ => []
  | z :: t, g => if z.o.k = 2 then (if g = 0 then z :: insPl t 0 else insPl t g) else if z.o.n.toNat ≤ g then insPl t (g - z.o.n.toNat) else []
def celPl : List OpS → Nat → Option OpS
  | [], _ => none
  | z :: t, g => if z.o.k = 2 then celPl t g else if g < z.o.n.toNat then some z else celPl t (g - z.o.n.toNat)
def takPl : List OpS → Nat
  | [] => 0
  | z :: t => (if z.o.k = 2 then 0 else z.o.n.toNat) + takPl t
theorem takPl_snoc (x : List OpS) (z : OpS) : takPl (x ++ [z]) = takPl x + (if z.o.k = 2 then 0 else z.o.n.toNat) := by
  induction x with
  | nil => simp [takPl]
  | cons a t ih => rw [List.cons_append, takPl, takPl, ih]; omega
theorem insPl_snoc (z : OpS) : ∀ (x : List OpS) (g : Nat), insPl (x ++ [z]) g = if z.o.k = 2 ∧ g = takPl x then insPl x g ++ [z] else insPl x g
  | [], g => by
    simp only [List.nil_append, insPl, takPl]
    by_cases h : z.o.k = 2
    · by_cases hg : g = 0 <;> simp [h, hg]
    · simp [h]
  | a :: t, g => by
    rw [List.cons_append, insPl, insPl, takPl]
    by_cases ha : a.o.k = 2
    · rw [if_pos ha, if_pos ha, if_pos ha, insPl_snoc z t 0, insPl_snoc z t g, Nat.zero_add]
      by_cases hg : g = 0
      · subst hg
        rw [if_pos rfl, if_pos rfl]
        by_cases h : z.o.k = 2 ∧ 0 = takPl t
        · rw [if_pos h, if_pos h]; rfl
        · rw [if_neg h, if_neg h]
      · rw [if_neg hg, if_neg hg]
    · rw [if_neg ha, if_neg ha, if_neg ha]
      by_cases hn : a.o.n.toNat ≤ g
      · rw [if_pos hn, if_pos hn, insPl_snoc z t _]
        have e : (g - a.o.n.toNat = takPl t) ↔ (g = a.o.n.toNat + takPl t) := by omega
        simp only [e]
      · rw [if_neg hn, if_neg hn, if_neg (fun h => by have := h.2; omega)]
theorem celPl_snoc (z : OpS) : ∀ (x : List OpS) (g : Nat), celPl (x ++ [z]) g = if g < takPl x then celPl x g else if z.o.k = 2 then none else if g < takPl x + z.o.n.toNat then some z else none
  | [], g => by simp [celPl, takPl]
  | a :: t, g => by
    rw [List.cons_append, celPl, celPl, takPl]
    by_cases ha : a.o.k = 2
    · rw [if_pos ha, if_pos ha, if_pos ha, celPl_snoc z t g, Nat.zero_add]
    · rw [if_neg ha, if_neg ha, if_neg ha]
      by_cases hn : g < a.o.n.toNat
      · rw [if_pos hn, if_pos hn, if_pos (by omega)]
      · rw [if_neg hn, if_neg hn, celPl_snoc z t _]
        have e1 : (g - a.o.n.toNat < takPl t) ↔ (g < a.o.n.toNat + takPl t) := by omega
        have e2 : (g - a.o.n.toNat < takPl t + z.o.n.toNat) ↔ (g < a.o.n.toNat + takPl t + z.o.n.toNat) := by omega
        simp only [e1, e2]
theorem celPl_past : ∀ (x : List OpS) (g : Nat), takPl x ≤ g → celPl x g = none
  | [], g, _ => rfl
  | a :: t, g, h => by
    rw [takPl] at h
    rw [celPl]
    by_cases ha : a.o.k = 2
    · rw [if_pos ha] at h ⊢
      exact celPl_past t g (by omega)
    · rw [if_neg ha] at h ⊢
      rw [if_neg (by omega)]
      exact celPl_past t _ (by omega)
theorem celPl_there : ∀ (x : List OpS) (g : Nat), g < takPl x → ∃ z, celPl x g = some z ∧ z ∈ x ∧ ¬ z.o.k = 2
  | [], g, h => by simp [takPl] at h
  | a :: t, g, h => by
    rw [takPl] at h
    rw [celPl]
    by_cases ha : a.o.k = 2
    · rw [if_pos ha] at h ⊢
      obtain ⟨z, h1, h2, h3⟩ := celPl_there t g (by omega)
      exact ⟨z, h1, List.mem_cons_of_mem _ h2, h3⟩
    · rw [if_neg ha] at h ⊢
      by_cases hn : g < a.o.n.toNat
      · exact ⟨a, by rw [if_pos hn], List.mem_cons_self, ha⟩
      · obtain ⟨z, h1, h2, h3⟩ := celPl_there t (g - a.o.n.toNat) (by omega)
        exact ⟨z, by rw [if_neg hn]; exact h1, List.mem_cons_of_mem _ h2, h3⟩
theorem insPl_mem : ∀ (x : List OpS) (g : Nat) (z : OpS), z ∈ insPl x g → z ∈ x ∧ z.o.k = 2
  | [], g, z, h => by cases h
  | a :: t, g, z, h => by
    rw [insPl] at h
    by_cases ha : a.o.k = 2
    · rw [if_pos ha] at h
      by_cases hg : g = 0
      · rw [if_pos hg] at h
        rcases List.mem_cons.1 h with rfl | h
        · exact ⟨List.mem_cons_self, ha⟩
        · have := insPl_mem t 0 z h; exact ⟨List.mem_cons_of_mem _ this.1, this.2⟩
      · rw [if_neg hg] at h
        have := insPl_mem t g z h; exact ⟨List.mem_cons_of_mem _ this.1, this.2⟩
    · rw [if_neg ha] at h
      split at h
      · have := insPl_mem t _ z h; exact ⟨List.mem_cons_of_mem _ this.1, this.2⟩
      · cases h
theorem insPl_len : ∀ (x : List OpS) (g : Nat), (insPl x g).length ≤ x.length
  | [], g => Nat.le_refl _
  | a :: t, g => by
    rw [insPl]
    by_cases ha : a.o.k = 2
    · rw [if_pos ha]
      by_cases hg : g = 0
      · rw [if_pos hg]; have := insPl_len t 0; simp; omega
      · rw [if_neg hg]; have := insPl_len t g; simp; omega
    · rw [if_neg ha]
      split
      · have := insPl_len t (g - a.o.n.toNat); simp; omega
      · simp
def cel1 (z : OpS) : Un := if z.o.k = 1 then .ret z.o.p else .del
theorem gapD_cell {u : Un} (hu : isIns u = false) (us : List Un) : ∀ g, gapD (u :: us) (g + 1) = gapD us g
  | 0 => by
    show ((u :: us).dropWhile isIns).tail = us
    rw [List.dropWhile_cons_of_neg (by rw [hu]; decide)]; rfl
  | g + 1 => by
    show ((gapD (u :: us) (g + 1)).dropWhile isIns).tail = ((gapD us g).dropWhile isIns).tail
    rw [gapD_cell hu us g]
theorem gapD_ins {u : Un} (hu : isIns u = true) (us : List Un) : ∀ g, gapD (u :: us) (g + 1) = gapD us (g + 1)
  | 0 => by
    show ((u :: us).dropWhile isIns).tail = (us.dropWhile isIns).tail
    rw [List.dropWhile_cons_of_pos hu]
  | g + 1 => by
    show ((gapD (u :: us) (g + 1)).dropWhile isIns).tail = ((gapD us (g + 1)).dropWhile isIns).tail
    rw [gapD_ins hu us g]
theorem gapD_inss : ∀ (a us : List Un), (∀ u ∈ a, isIns u = true) → ∀ g, gapD (a ++ us) (g + 1) = gapD us (g + 1)
  | [], us, _, g => rfl
  | u :: a, us, h, g => by
    rw [List.cons_append, gapD_ins (h u List.mem_cons_self), gapD_inss a us (fun v hv => h v (List.mem_cons_of_mem _ hv))]
theorem gapD_cells {u : Un} (hu : isIns u = false) (us : List Un) : ∀ (n g : Nat), n ≤ g → gapD (List.replicate n u ++ us) g = gapD us (g - n)
  | 0, g, _ => rfl
  | n + 1, 0, h => by omega
  | n + 1, g + 1, h => by
    rw [List.replicate_succ, List.cons_append, gapD_cell hu, gapD_cells hu us n g (by omega)]
    congr 1; omega
theorem gapD_in {u : Un} (hu : isIns u = false) (us : List Un) : ∀ (n g : Nat), g < n → ∃ t, gapD (List.replicate n u ++ us) g = u :: t
  | 0, g, h => by omega
  | n + 1, 0, _ => ⟨_, by rw [List.replicate_succ]; rfl⟩
  | n + 1, g + 1, h => by
    rw [List.replicate_succ, List.cons_append, gapD_cell hu]
    exact gapD_in hu us n g (by omega)
theorem tw_ins {a us : List Un} (h : ∀ u ∈ a, isIns u = true) : (a ++ us).takeWhile isIns = a ++ us.takeWhile isIns := by
  induction a with
  | nil => rfl
  | cons u a ih => rw [List.cons_append, List.takeWhile_cons_of_pos (h u List.mem_cons_self), ih (fun v hv => h v (List.mem_cons_of_mem _ hv))]; rfl
theorem dw_ins {a us : List Un} (h : ∀ u ∈ a, isIns u = true) : (a ++ us).dropWhile isIns = us.dropWhile isIns := by
  induction a with
  | nil => rfl
  | cons u a ih => rw [List.cons_append, List.dropWhile_cons_of_pos (h u List.mem_cons_self), ih (fun v hv => h v (List.mem_cons_of_mem _ hv))]
theorem unitsO_ins {z : OpS} (h : z.o.k = 2) : ∀ u ∈ unitsO z.o, isIns u = true := by
  unfold unitsO
  rw [if_pos h]
  intro u hu
  obtain ⟨r, _, rfl⟩ := List.mem_map.1 hu
  rfl
theorem unitsO_cel {z : OpS} (h : ¬ z.o.k = 2) : unitsO z.o = List.replicate z.o.n.toNat (cel1 z) := by
  unfold unitsO cel1
  rw [if_neg h]
  split <;> rfl
theorem cel1_not (z : OpS) : isIns (cel1 z) = false := by unfold cel1; split <;> rfl
theorem plan_units : ∀ (x : List OpS) (g : Nat), (gapD (units (osOf x)) g).takeWhile isIns = units (osOf (insPl x g)) ∧ ((gapD (units (osOf x)) g).dropWhile isIns).head? = (celPl x g).map cel1
  | [], g => by
    have : ∀ g, gapD [] g = [] := fun g => by
      induction g with
      | zero => rfl
      | succ g ih => show ((gapD [] g).dropWhile isIns).tail = []; rw [ih]; rfl
    show (gapD [] g).takeWhile isIns = [] ∧ ((gapD [] g).dropWhile isIns).head? = none
    rw [this g]; exact ⟨rfl, rfl⟩
  | z :: t, g => by
    have e : units (osOf (z :: t)) = unitsO z.o ++ units (osOf t) := rfl
    rw [e, insPl, celPl]
    by_cases hz : z.o.k = 2
    · have hi := unitsO_ins hz
      rw [if_pos hz, if_pos hz]
      cases g with
      | zero =>
        obtain ⟨h1, h2⟩ := plan_units t 0
        rw [if_pos rfl]
        show (unitsO z.o ++ units (osOf t)).takeWhile isIns = unitsO z.o ++ units (osOf (insPl t 0)) ∧ _
        constructor
        · rw [tw_ins hi]; rw [← h1]; rfl
        · rw [← h2]
          show ((unitsO z.o ++ units (osOf t)).dropWhile isIns).head? = _
          rw [dw_ins hi]; rfl
      | succ g =>
        rw [if_neg (by omega), gapD_inss _ _ hi]
        exact plan_units t (g + 1)
    · rw [if_neg hz, if_neg hz, unitsO_cel hz]
      have hn := cel1_not z
      by_cases hg : z.o.n.toNat ≤ g
      · rw [if_pos hg, if_neg (by omega), gapD_cells hn _ _ _ hg]
        exact plan_units t _
      · rw [if_neg hg, if_pos (by omega)]
        obtain ⟨s, hs⟩ := gapD_in hn (units (osOf t)) z.o.n.toNat g (by omega)
        rw [hs]
        exact ⟨by rw [List.takeWhile_cons_of_neg (by rw [hn]; decide)]; rfl, by rw [List.dropWhile_cons_of_neg (by rw [hn]; decide)]; rfl⟩
open Go.RowKit Go.MapKept

def MapV (w : World) (b : Nat) (kv : List (Int × Value)) : Prop := ∃ es clock, w.heap[b]? = some (.map es clock) ∧ es.toList.map (fun e => (e.key, e.val)) = kv.map (fun p => (Value.int .i64 p.1, p.2))
def findV (kv : List (Int × Value)) (id : Int) : Option Value := (kv.find? (fun p => decide (p.1 = id))).map (·.2)
def putV : List (Int × Value) → Int → Value → List (Int × Value)
  | [], id, v => [(id, v)]
  | p :: t, id, v => if p.1 = id then (id, v) :: t else p :: putV t id v
theorem findV_put (kv : List (Int × Value)) (id : Int) (v : Value) (k : Int) : findV (putV kv id v) k = if id = k then some v else findV kv k := by
  induction kv with
  | nil => unfold findV putV; by_cases h : id = k <;> simp [h]
  | cons p t ih =>
    unfold putV
    by_cases hp : p.1 = id
    · rw [if_pos hp]
      unfold findV
      by_cases hk : id = k
      · simp [hk]
      · have : ¬ p.1 = k := fun e => hk (hp.symm.trans e)
        simp [hk, this]
    · rw [if_neg hp]
      unfold findV at ih ⊢
      rw [List.find?_cons, List.find?_cons]
      by_cases hk : p.1 = k
      · have : ¬ id = k := fun e => hp (hk.trans e.symm)
        simp [hk, this]
      · simp only [hk, decide_false]
        exact ih
theorem findNow_vals (id : Int) : ∀ (kv : List (Int × Value)) (es : List MapEntry) (i : Nat), es.map (fun e => (e.key, e.val)) = kv.map (fun p => (Value.int .i64 p.1, p.2)) →
    (findV kv id = none ∧ Instr.findNow (.int .i64) (.int .i64 id) es i = some none) ∨
    ∃ j v, findV kv id = some v ∧ Instr.findNow (.int .i64) (.int .i64 id) es i = some (some (i + j, v)) ∧ (∃ e, es[j]? = some e ∧ e.key = .int .i64 id) ∧ ∀ v', (es.modify j (fun e => { e with key := .int .i64 id, val := v' })).map (fun e => (e.key, e.val)) = (putV kv id v').map (fun p => (Value.int .i64 p.1, p.2))
  | [], [], i, _ => .inl ⟨rfl, rfl⟩
  | [], e :: es, i, h => by simp at h
  | k :: l, [], i, h => by simp at h
  | k :: l, e :: es, i, h => by
    simp only [List.map_cons, List.cons.injEq, Prod.mk.injEq] at h
    obtain ⟨⟨h1, h2⟩, h3⟩ := h
    by_cases hk : k.1 = id
    · refine .inr ⟨0, e.val, ?_, ?_, ⟨e, rfl, by rw [h1, hk]⟩, fun v' => ?_⟩
      · unfold findV; simp [hk, h2]
      · simp [Instr.findNow, Instr.sameNow, h1, hk]
      · unfold putV; rw [if_pos hk]; simp [h3]
    · have hb : (id == k.1) = false := by simp; omega
      have hf : findV (k :: l) id = findV l id := by unfold findV; simp [hk]
      rcases findNow_vals id l es (i + 1) h3 with ⟨g1, g2⟩ | ⟨j, v, g1, g2, ⟨e', g3, g3'⟩, g4⟩
      · exact .inl ⟨by rw [hf, g1], by simp [Instr.findNow, Instr.sameNow, h1, hb, g2]⟩
      · refine .inr ⟨j + 1, v, by rw [hf, g1], ?_, ⟨e', by simpa using g3, g3'⟩, fun v' => ?_⟩
        · simp only [Instr.findNow, Instr.sameNow, h1, hb]
          rw [g2]
          have : i + 1 + j = i + (j + 1) := by omega
          simp [this]
        · unfold putV; rw [if_neg hk]
          simp only [List.modify_succ_cons, List.map_cons, h1, h2, g4 v']
section
variable {t k e : TypeId} {z : Value} {w : World} {b : Nat} {kv : List (Int × Value)}
theorem MapV.look (hu : Tryz.prog.underlying t = some (.map 3 e)) (hz : ∀ w, (zeroValue e).run Tryz.prog w = .ok z w) (h : MapV w b kv) (id : Int) :
    (Instr.lookup t (.map (some b)) (.int .i64 id) false).run Tryz.prog w = .ok ((findV kv id).getD z) w := by
  obtain ⟨es, clock, hb, he⟩ := h
  have hc := fun e => run_checkKey (P := Tryz.prog) (w := w) (k := .int .i64 id) Tryz.mpInt (by simp [IsKey]) e 9999
  rcases findNow_vals id kv es.toList 0 he with ⟨h1, h2⟩ | ⟨j, v, h1, h2, _⟩
  · have hf := run_findKey (P := Tryz.prog) (w := w) Tryz.mpInt h2
    simp [Instr.lookup, run_underlying hu, MapKept.run_getObj_map hb, hc, hf, hz, Result.andThen, h1]
  · have hf := run_findKey (P := Tryz.prog) (w := w) Tryz.mpInt h2
    simp [Instr.lookup, run_underlying hu, MapKept.run_getObj_map hb, hc, hf, Result.andThen, h1]
theorem MapV.store (hu : Tryz.prog.underlying t = some (.map 3 e)) (h : MapV w b kv) (id : Int) (v : Value) :
    ∃ w', (Instr.mapUpdate t (.map (some b)) (.int .i64 id) v).run Tryz.prog w = .ok () w' ∧ MapV w' b (putV kv id v) ∧ (∀ j, j ≠ b → w'.heap[j]? = w.heap[j]?) ∧ w'.heap.size = w.heap.size ∧ w'.os = w.os ∧ w'.tape = w.tape ∧ w'.output = w.output := by
  obtain ⟨es, clock, hb, he⟩ := h
  have hc := fun e => run_checkKey (P := Tryz.prog) (w := w) (k := .int .i64 id) Tryz.mpInt (by simp [IsKey]) e 9999
  rcases findNow_vals id kv es.toList 0 he with ⟨h1, h2⟩ | ⟨j, v0, h1, h2, ⟨e', h3, h3'⟩, h4⟩
  · have hf := run_findKey (P := Tryz.prog) (w := w) Tryz.mpInt h2
    obtain ⟨g1, g2⟩ := heap_set (o' := .map (es.push ⟨.int .i64 id, v, clock⟩) (clock + 1)) hb
    refine ⟨{ w with heap := w.heap.setIfInBounds b (.map (es.push ⟨.int .i64 id, v, clock⟩) (clock + 1)) }, ?_, ⟨_, _, g1, ?_⟩, g2, by simp, rfl, rfl, rfl⟩
    · simp [Instr.mapUpdate, run_underlying hu, MapKept.run_getObj_map hb, hc, hf, MapKept.run_setObj_map _ hb, Result.andThen]
    · rw [Array.toList_push, List.map_append, he]
      have : ∀ (l : List (Int × Value)), findV l id = none → (putV l id v) = l ++ [(id, v)] := by
        intro l
        induction l with
        | nil => intro _; rfl
        | cons p t ih =>
          intro hn
          unfold findV at hn
          rw [List.find?_cons] at hn
          by_cases hp : p.1 = id
          · simp [hp] at hn
          · unfold putV; rw [if_neg hp]
            simp only [hp, decide_false] at hn
            rw [ih (by unfold findV; exact hn)]; rfl
      rw [this kv h1]; simp
  · have hf := run_findKey (P := Tryz.prog) (w := w) Tryz.mpInt h2
    rw [Nat.zero_add] at hf
    obtain ⟨g1, g2⟩ := heap_set (o' := .map (es.modify j fun e => { e with key := .int .i64 id, val := v }) clock) hb
    have h5 : es[j]? = some e' := by rw [← Array.getElem?_toList]; exact h3
    refine ⟨{ w with heap := w.heap.setIfInBounds b (.map (es.modify j fun e => { e with key := .int .i64 id, val := v }) clock) }, ?_, ⟨_, _, g1, ?_⟩, g2, by simp, rfl, rfl, rfl⟩
    · simp [Instr.mapUpdate, Instr.keyThatStays, Instr.sameBits, run_underlying hu, MapKept.run_getObj_map hb, hc, hf, h5, h3', MapKept.run_setObj_map _ hb, Result.andThen]
    · rw [Array.toList_modify]
      exact h4 v
theorem MapV.keep {w' : World} (h : MapV w b kv) (e : w'.heap[b]? = w.heap[b]?) : MapV w' b kv := by
  obtain ⟨es, clock, hb, he⟩ := h
  exact ⟨es, clock, e.trans hb, he⟩
theorem MapV.ext {w' : World} (h : MapV w b kv) (y : Below w.heap.size w w') : MapV w' b kv := by
  obtain ⟨es, clock, hb, he⟩ := h
  exact ⟨es, clock, (y.block b (lt_of_some hb)).trans hb, he⟩
theorem MapV.new (w : World) : MapV (w.alloc (.map #[] 0)) w.heap.size [] := ⟨_, _, heap_alloc_new _ _, rfl⟩
end
open Go.RowKit Go.MapKept
set_option linter.unusedVariables false
set_option linter.unusedSimpArgs false

theorem Tryz.mpOps : Tryz.prog.underlying 157 = some (.map 3 44) := by kernel_rfl
theorem Tryz.mpNum : Tryz.prog.underlying 158 = some (.map 3 3) := by kernel_rfl
theorem Tryz.mpChs : Tryz.prog.underlying 159 = some (.map 3 48) := by kernel_rfl
theorem Tryz.zeroOps (w : World) : (zeroValue 44).run Tryz.prog w = .ok (.slice none 0 0) w := by kernel_rfl
theorem Tryz.zeroNum (w : World) : (zeroValue 3).run Tryz.prog w = .ok (.int .i64 0) w := by kernel_rfl
theorem Tryz.zeroChs (w : World) : (zeroValue 48).run Tryz.prog w = .ok (.slice none 0 0) w := by kernel_rfl
section
variable {ops : Array Oper} {rest : List Oper} {o : Oper} {a : Act} {Q : Exit → Act → World → Prop} {w : World} {K : Act → World → Prop} {E : Prop}
theorem wpList_lookV {t e : TypeId} {z : Value} {b : Nat} {kv : List (Int × Value)} (hg : o.guard = none) (m x : Operand) (hop : o.op = Op.lookup t m x false) (id : Int) (hm : a.eval m = .map (some b)) (hx : a.eval x = .int .i64 id)
    (hu : Tryz.prog.underlying t = some (.map 3 e)) (hz : ∀ w, (zeroValue e).run Tryz.prog w = .ok z w) (hM : MapV w b kv)
    (hK : wpList Tryz.prog ops Q rest (a.put o.dst ((findV kv id).getD z)) w) : wpList Tryz.prog ops Q (o :: rest) a w := by
  refine wpList_plain hg fun K' hK' => ?_
  unfold Oper.wp
  simp [execOp, hop, hm, hx, hM.look hu hz id, Result.andThen]
  exact hK' _ _ hK
theorem wpList_putV {t e : TypeId} {b : Nat} {kv : List (Int × Value)} {val : Value} (hg : o.guard = none) (hd : o.dst = none) (m x v : Operand) (hop : o.op = Op.mapUpdate t m x v) (id : Int) (hm : a.eval m = .map (some b)) (hx : a.eval x = .int .i64 id) (hv : a.eval v = val)
    (hu : Tryz.prog.underlying t = some (.map 3 e)) (hM : MapV w b kv)
    (hK : ∀ w', MapV w' b (putV kv id val) → (∀ j, j ≠ b → w'.heap[j]? = w.heap[j]?) → w'.heap.size = w.heap.size → w'.os = w.os → w'.tape = w.tape → w'.output = w.output → wpList Tryz.prog ops Q rest a w') : wpList Tryz.prog ops Q (o :: rest) a w := by
  refine wpList_plain hg fun K' hK' => ?_
  obtain ⟨w', hrun, h1, h2, h3, h4, h5, h6⟩ := hM.store hu id val
  unfold Oper.wp
  simp [execOp, hop, hm, hx, hv, hrun, Result.andThen]
  unfold Oper.upon
  rw [hd]
  exact hK' _ _ (hK w' h1 h2 h3 h4 h5 h6)
end

def zk (z : OpS) (k : Nat) : OpS := { z with o := { z.o with n := (k : Int) } }
theorem zk_all {z : OpS} (h : 0 ≤ z.o.n) : zk z z.o.n.toNat = z := by
  unfold zk
  rw [Int.toNat_of_nonneg h]
def goneV (c : Option OpS) : Value := .int .i64 (match c with | some z => if z.o.k = 3 then 1 else 0 | none => 0)
def patV (c : Option OpS) : Value := match c with | some z => if z.o.k = 3 then .slice none 0 0 else .slice z.Ap z.o.p.length z.cp | none => .slice none 0 0
def PlanGone (kv : List (Int × Value)) (X : List OpS) : Prop := ∀ g : Nat, (findV kv (g : Int)).getD (.int .i64 0) = goneV (celPl X g)
def PlanPat (kv : List (Int × Value)) (X : List OpS) : Prop := ∀ g : Nat, (findV kv (g : Int)).getD (.slice none 0 0) = patV (celPl X g)
theorem celPl_ins {X : List OpS} {z : OpS} (hz : z.o.k = 2) (g : Nat) : celPl (X ++ [z]) g = celPl X g := by
  rw [celPl_snoc]
  by_cases h : g < takPl X
  · rw [if_pos h]
  · rw [if_neg h, if_pos hz, celPl_past X g (by omega)]
theorem celPl_zero {X : List OpS} {z : OpS} (hz : ¬ z.o.k = 2) (g : Nat) : celPl (X ++ [zk z 0]) g = celPl X g := by
  rw [celPl_snoc]
  by_cases h : g < takPl X
  · rw [if_pos h]
  · rw [if_neg h, if_neg (show ¬ (zk z 0).o.k = 2 from hz), if_neg (show ¬ g < takPl X + (zk z 0).o.n.toNat by show ¬ g < takPl X + ((0 : Nat) : Int).toNat; simp; omega), celPl_past X g (by omega)]
theorem celPl_more {X : List OpS} {z : OpS} {k : Nat} (hz : ¬ z.o.k = 2) (g : Nat) : celPl (X ++ [zk z (k + 1)]) g = if g = takPl X + k then some (zk z (k + 1)) else (celPl (X ++ [zk z k]) g).map (fun c => if g < takPl X then c else zk z (k + 1)) := by
  rw [celPl_snoc, celPl_snoc]
  have e1 : (zk z (k + 1)).o.n.toNat = k + 1 := by show ((k + 1 : Nat) : Int).toNat = k + 1; simp
  have e2 : (zk z k).o.n.toNat = k := by show ((k : Nat) : Int).toNat = k; simp
  rw [e1, e2]
  have hz1 : ¬ (zk z (k + 1)).o.k = 2 := hz
  have hz2 : ¬ (zk z k).o.k = 2 := hz
  by_cases h : g < takPl X
  · rw [if_pos h, if_pos h, if_neg (by omega)]
    cases celPl X g <;> simp [h]
  · rw [if_neg h, if_neg h, if_neg hz1, if_neg hz2]
    by_cases h1 : g = takPl X + k
    · rw [if_pos (by omega), if_pos h1]
    · rw [if_neg h1]
      by_cases h2 : g < takPl X + k
      · rw [if_pos (by omega), if_pos h2]; simp [h]
      · rw [if_neg (by omega), if_neg h2]; rfl
theorem insPl_zk {X : List OpS} {z : OpS} {k : Nat} (hz : ¬ z.o.k = 2) (g : Nat) : insPl (X ++ [zk z k]) g = insPl X g := by
  rw [insPl_snoc, if_neg (fun h => hz h.1)]
theorem takPl_zk {X : List OpS} {z : OpS} {k : Nat} (hz : ¬ z.o.k = 2) : takPl (X ++ [zk z k]) = takPl X + k := by
  rw [takPl_snoc, if_neg (show ¬ (zk z k).o.k = 2 from hz)]
  show takPl X + ((k : Nat) : Int).toNat = _
  simp
theorem goneV_map {c : Option OpS} {f : OpS → OpS} (h : ∀ z, c = some z → (f z).o.k = z.o.k) : goneV (c.map f) = goneV c := by
  cases c with
  | none => rfl
  | some z => unfold goneV; simp only [Option.map_some]; rw [h z rfl]
theorem patV_map {c : Option OpS} {f : OpS → OpS} (h : ∀ z, c = some z → (f z).o.k = z.o.k ∧ (f z).Ap = z.Ap ∧ (f z).o.p = z.o.p ∧ (f z).cp = z.cp) : patV (c.map f) = patV c := by
  cases c with
  | none => rfl
  | some z =>
    unfold patV; simp only [Option.map_some]
    obtain ⟨h1, h2, h3, h4⟩ := h z rfl
    rw [h1, h2, h3, h4]
theorem celPl_last {X : List OpS} {z c : OpS} {k g : Nat} (hz : ¬ z.o.k = 2) (h : celPl (X ++ [zk z k]) g = some c) (hg : ¬ g < takPl X) : c = zk z k := by
  rw [celPl_snoc, if_neg hg, if_neg (show ¬ (zk z k).o.k = 2 from hz)] at h
  split at h
  · injection h with h; exact h.symm
  · cases h
section
variable {kv : List (Int × Value)} {X : List OpS} {z : OpS} {k : Nat}
theorem PlanGone.ins (h : PlanGone kv X) (hz : z.o.k = 2) : PlanGone kv (X ++ [z]) := fun g => by rw [celPl_ins hz]; exact h g
theorem PlanPat.ins (h : PlanPat kv X) (hz : z.o.k = 2) : PlanPat kv (X ++ [z]) := fun g => by rw [celPl_ins hz]; exact h g
theorem PlanGone.zero (h : PlanGone kv X) (hz : ¬ z.o.k = 2) : PlanGone kv (X ++ [zk z 0]) := fun g => by rw [celPl_zero hz]; exact h g
theorem PlanPat.zero (h : PlanPat kv X) (hz : ¬ z.o.k = 2) : PlanPat kv (X ++ [zk z 0]) := fun g => by rw [celPl_zero hz]; exact h g
theorem gone_same (hz : ¬ z.o.k = 2) (g : Nat) : goneV ((celPl (X ++ [zk z k]) g).map (fun c => if g < takPl X then c else zk z (k + 1))) = goneV (celPl (X ++ [zk z k]) g) :=
  goneV_map fun c hc => by
    by_cases hg : g < takPl X
    · rw [if_pos hg]
    · rw [if_neg hg, celPl_last hz hc hg]; rfl
theorem pat_same (hz : ¬ z.o.k = 2) (g : Nat) : patV ((celPl (X ++ [zk z k]) g).map (fun c => if g < takPl X then c else zk z (k + 1))) = patV (celPl (X ++ [zk z k]) g) :=
  patV_map fun c hc => by
    by_cases hg : g < takPl X
    · rw [if_pos hg]; exact ⟨rfl, rfl, rfl, rfl⟩
    · rw [if_neg hg, celPl_last hz hc hg]; exact ⟨rfl, rfl, rfl, rfl⟩
theorem past_none (hz : ¬ z.o.k = 2) : celPl (X ++ [zk z k]) (takPl X + k) = none := celPl_past _ _ (by rw [takPl_zk hz]; omega)
theorem PlanGone.put (h : PlanGone kv (X ++ [zk z k])) (hz : z.o.k = 3) : PlanGone (putV kv ((takPl X + k : Nat) : Int) (.int .i64 1)) (X ++ [zk z (k + 1)]) := fun g => by
  have hz2 : ¬ z.o.k = 2 := by rw [hz]; decide
  rw [findV_put, celPl_more hz2]
  by_cases hg : g = takPl X + k
  · subst hg
    rw [if_pos rfl, if_pos rfl]
    have : (zk z (k + 1)).o.k = 3 := hz
    unfold goneV; simp [this]
  · rw [if_neg (by omega), if_neg hg, gone_same hz2]; exact h g
theorem PlanGone.skip (h : PlanGone kv (X ++ [zk z k])) (hz : ¬ z.o.k = 2) (hz3 : ¬ z.o.k = 3) : PlanGone kv (X ++ [zk z (k + 1)]) := fun g => by
  rw [celPl_more hz]
  by_cases hg : g = takPl X + k
  · subst hg
    rw [if_pos rfl]
    have h1 := h (takPl X + k)
    rw [past_none hz] at h1
    rw [h1]
    have : ¬ (zk z (k + 1)).o.k = 3 := hz3
    unfold goneV; simp [this]
  · rw [if_neg hg, gone_same hz]; exact h g
theorem PlanPat.skip (h : PlanPat kv (X ++ [zk z k])) (hz : z.o.k = 3) : PlanPat kv (X ++ [zk z (k + 1)]) := fun g => by
  have hz2 : ¬ z.o.k = 2 := by rw [hz]; decide
  rw [celPl_more hz2]
  by_cases hg : g = takPl X + k
  · subst hg
    rw [if_pos rfl]
    have h1 := h (takPl X + k)
    rw [past_none hz2] at h1
    rw [h1]
    have : (zk z (k + 1)).o.k = 3 := hz
    unfold patV; simp [this]
  · rw [if_neg hg, pat_same hz2]; exact h g
theorem PlanPat.put (h : PlanPat kv (X ++ [zk z k])) (hz : ¬ z.o.k = 2) (hz3 : ¬ z.o.k = 3) : PlanPat (putV kv ((takPl X + k : Nat) : Int) (.slice z.Ap z.o.p.length z.cp)) (X ++ [zk z (k + 1)]) := fun g => by
  rw [findV_put, celPl_more hz]
  by_cases hg : g = takPl X + k
  · subst hg
    rw [if_pos rfl, if_pos rfl]
    have : ¬ (zk z (k + 1)).o.k = 3 := hz3
    unfold patV; simp [this]; exact ⟨rfl, rfl, rfl⟩
  · rw [if_neg (by omega), if_neg hg, pat_same hz]; exact h g
end
def PlanRows (w : World) (base lo N : Nat) (kv : List (Int × Value)) (X : List OpS) : Prop :=
  (∀ g : Nat, N < g → findV kv (g : Int) = none) ∧
  ∀ g : Nat, ∃ A n c, (findV kv (g : Int)).getD (.slice none 0 0) = .slice A n c ∧ n = (insPl X g).length ∧ OwOs w base (.slice A n c) (insPl X g) ∧ (g < N → ∀ k, wb (.slice A n c) = some k → k < lo) ∧ (N ≤ g → ∀ k, wb (.slice A n c) = some k → lo ≤ k)
theorem PlanRows.new (w : World) (base lo : Nat) : PlanRows w base lo 0 [] [] :=
  ⟨fun _ _ => rfl, fun g => ⟨none, 0, 0, rfl, rfl, Ow.nil _ _, fun h => by omega, fun _ k hk => by cases hk⟩⟩
section
variable {w w' : World} {base lo N : Nat} {kv : List (Int × Value)} {X : List OpS} {z : OpS}
theorem PlanRows.keep (h : PlanRows w base lo N kv X) (hk : ∀ k, base ≤ k → k < w.heap.size → w'.heap[k]? = w.heap[k]?) : PlanRows w' base lo N kv X :=
  ⟨h.1, fun g => by
    obtain ⟨A, n, c, h1, h2, h3, h4, h5⟩ := h.2 g
    exact ⟨A, n, c, h1, h2, h3.keep fun k hw => hk k (h3.wb_lt k hw).1 (h3.wb_lt k hw).2, h4, h5⟩⟩
theorem PlanRows.same (h : PlanRows w base lo N kv X) {Y : List OpS} (hY : ∀ g, insPl Y g = insPl X g) : PlanRows w base lo N kv Y :=
  ⟨h.1, fun g => by rw [hY g]; exact h.2 g⟩
theorem PlanRows.adv (h : PlanRows w base lo N kv X) (hs : lo ≤ w.heap.size) : PlanRows w base w.heap.size (N + 1) kv X :=
  ⟨fun g hg => h.1 g (by omega), fun g => by
    obtain ⟨A, n, c, h1, h2, h3, h4, h5⟩ := h.2 g
    refine ⟨A, n, c, h1, h2, h3, fun _ k hk => (h3.wb_lt k hk).2, fun hg k hk => ?_⟩
    rw [h.1 g (by omega)] at h1
    injection h1 with e1 e2 e3
    subst e1 e2 e3
    cases hk⟩
theorem PlanRows.push (h : PlanRows w base lo N kv X) (hN : N = takPl X) (hz : z.o.k = 2) (hs : lo ≤ w.heap.size) {wa wb' : World} {v v' : Value} (hv : (findV kv (N : Int)).getD (.slice none 0 0) = v)
    (ha : w.heap.size ≤ wa.heap.size) (hab : ∀ k, k < w.heap.size → wa.heap[k]? = w.heap[k]?) (ho : OwOs wb' base v' (insPl X N ++ [z])) (hg : wa.grownBy wb' (wb v)) (hw : v' = v ∧ wb' = wa ∨ wb v' = wb v ∨ wb v' = some wa.heap.size)
    {w'' : World} (hk : ∀ k, base ≤ k → w''.heap[k]? = wb'.heap[k]?) : PlanRows w'' base lo N (putV kv (N : Int) v') (X ++ [z]) := by
  obtain ⟨A0, n0, c0, e1, e2, e3, e4, e5⟩ := h.2 N
  rw [hv] at e1
  subst e1
  refine ⟨fun g hg' => by rw [findV_put, if_neg (by omega)]; exact h.1 g hg', fun g => ?_⟩
  rw [findV_put, insPl_snoc]
  by_cases hgN : g = N
  · subst hgN
    rw [if_pos rfl, if_pos ⟨hz, hN⟩]
    obtain ⟨A, c, e6, _, _⟩ := ho.form
    subst e6
    refine ⟨A, _, c, rfl, rfl, ho.keep fun k hw2 => hk k (ho.wb_lt k hw2).1, fun h' => by omega, fun _ k hw2 => ?_⟩
    rcases hw with ⟨h1, _⟩ | h1 | h1
    · rw [h1] at hw2; exact e5 (Nat.le_refl _) k hw2
    · rw [h1] at hw2; exact e5 (Nat.le_refl _) k hw2
    · rw [h1] at hw2; injection hw2 with hw2; omega
  · rw [if_neg (by omega), if_neg (fun h' => hgN (h'.2.trans hN.symm))]
    obtain ⟨A, n, c, h1, h2, h3, h4, h5⟩ := h.2 g
    refine ⟨A, n, c, h1, h2, h3.keep fun k hw2 => ?_, h4, h5⟩
    have hb := h3.wb_lt k hw2
    rw [hk k hb.1]
    have hne : wb (.slice A0 n0 c0) ≠ some k := by
      intro e
      rcases Nat.lt_or_ge g N with hlt | hge
      · have := h4 hlt k hw2
        have := e5 (Nat.le_refl _) k e
        omega
      · rw [h.1 g (by omega)] at h1
        injection h1 with q1 q2 q3
        subst q1 q2 q3
        cases hw2
    exact (hg.block k (by omega) (fun e => hne e.symm)).trans (hab k hb.2)
end
open Go.RowKit Go.MapKept
set_option linter.unusedVariables false
set_option linter.unusedSimpArgs false

theorem takPl_units (x : List OpS) : takPl x = takesU (units (osOf x)) := by
  induction x with
  | nil => rfl
  | cons z t ih =>
    have e : units (osOf (z :: t)) = unitsO z.o ++ units (osOf t) := rfl
    rw [takPl, e, takesU_append, ih]
    congr 1
    unfold unitsO
    by_cases h2 : z.o.k = 2
    · rw [if_pos h2, if_pos h2]
      induction z.o.r with
      | nil => rfl
      | cons a r ihr => rw [List.map_cons]; exact ihr
    · rw [if_neg h2, if_neg h2]
      have hd : ∀ n, takesU (List.replicate n Un.del) = n := fun n => by
        induction n with
        | zero => rfl
        | succ n ih => rw [List.replicate_succ]; show takesU _ + 1 = _; rw [ih]
      have hr : ∀ n, takesU (List.replicate n (Un.ret z.o.p)) = n := fun n => by
        induction n with
        | zero => rfl
        | succ n ih => rw [List.replicate_succ]; show takesU _ + 1 = _; rw [ih]
      split
      · exact (hr _).symm
      · exact (hd _).symm
def PlanAt (w : World) (bI bG bP : Nat) (y : List OpS) : Prop := ∃ kvI kvG kvP, MapV w bI kvI ∧ MapV w bG kvG ∧ MapV w bP kvP ∧
  (∀ g : Nat, ∃ A n c, (findV kvI (g : Int)).getD (.slice none 0 0) = .slice A n c ∧ n = (insPl y g).length ∧ n ≤ c ∧ c ≤ maxLen ∧ RdOs w w.heap.size A (insPl y g)) ∧ PlanGone kvG y ∧ PlanPat kvP y
theorem PlanAt.ext {w w' : World} {bI bG bP : Nat} {y : List OpS} (h : PlanAt w bI bG bP y) (b : Below w.heap.size w w') : PlanAt w' bI bG bP y := by
  obtain ⟨kI, kG, kP, h1, h2, h3, h4, h5, h6⟩ := h
  refine ⟨kI, kG, kP, h1.ext b, h2.ext b, h3.ext b, fun g => ?_, h5, h6⟩
  obtain ⟨A, n, c, e1, e2, e3, e4, e5⟩ := h4 g
  exact ⟨A, n, c, e1, e2, e3, e4, e5.ext b⟩
def planZ : Array Value := #[.int .i64 0, .map none, .map none, .map none]
def planC (s N : Nat) : Array Value := #[.int .i64 (N : Int), .map (some (s + 1)), .map (some (s + 2)), .map (some (s + 3))]
def PlanInv (w wy wr : World) (X : List OpS) : Prop :=
  Below w.heap.size w wr ∧ w.heap.size + 5 ≤ wy.heap.size ∧ wy.heap.size ≤ wr.heap.size ∧ (∀ k, w.heap.size + 5 ≤ k → k < wy.heap.size → wr.heap[k]? = wy.heap[k]?) ∧
  wr.heap[w.heap.size]? = some (.cells planZ 161 (0, 0)) ∧ wr.heap[w.heap.size + 4]? = some (.cells (planC w.heap.size (takPl X)) 161 (0, 0)) ∧
  ∃ kvI kvG kvP lo, MapV wr (w.heap.size + 1) kvI ∧ MapV wr (w.heap.size + 2) kvG ∧ MapV wr (w.heap.size + 3) kvP ∧ lo ≤ wr.heap.size ∧ PlanRows wr wy.heap.size lo (takPl X) kvI X ∧ PlanGone kvG X ∧ PlanPat kvP X
section
variable {w wy wr w' : World} {X : List OpS} {z : OpS} {k : Nat}
theorem PlanInv.ext (h : PlanInv w wy wr X) (y : Below wr.heap.size wr w') : PlanInv w wy w' X := by
  obtain ⟨h1, h0, h2, h3, h4, h5, kI, kG, kP, lo, m1, m2, m3, m4, m5, m6, m7⟩ := h
  refine ⟨h1.trans (y.mono h1.size), h0, Nat.le_trans h2 y.size, fun k a b => (y.block k (by omega)).trans (h3 k a b), (y.block _ (lt_of_some h4)).trans h4, (y.block _ (lt_of_some h5)).trans h5, kI, kG, kP, lo, m1.ext y, m2.ext y, m3.ext y, Nat.le_trans m4 y.size, m5.keep fun k _ hk => y.block k hk, m6, m7⟩
theorem PlanInv.zero (h : PlanInv w wy wr X) (hz : ¬ z.o.k = 2) : PlanInv w wy wr (X ++ [zk z 0]) := by
  obtain ⟨h1, h0, h2, h3, h4, h5, kI, kG, kP, lo, m1, m2, m3, m4, m5, m6, m7⟩ := h
  have e : takPl (X ++ [zk z 0]) = takPl X := by rw [takPl_zk hz]; omega
  refine ⟨h1, h0, h2, h3, h4, by rw [e]; exact h5, kI, kG, kP, lo, m1, m2, m3, m4, ?_, m6.zero hz, m7.zero hz⟩
  rw [e]
  exact m5.same fun g => insPl_zk hz g
theorem inv_turn {b : Nat} {w1 : World} {N : Nat} (h1 : Below w.heap.size w wr) (hb : w.heap.size ≤ b) (s1 : ∀ j, j ≠ b → w1.heap[j]? = wr.heap[j]?) (s2 : w1.heap.size = wr.heap.size) (s3 : w1.os = wr.os) (s4 : w1.tape = wr.tape) (s5 : w1.output = wr.output) : Below w.heap.size w w1 :=
  h1.trans ⟨s3, s4, s5, by omega, fun k hk => s1 k (by omega)⟩
theorem plan_set {w1 : World} {s N M : Nat} (h : w1.heap[s + 4]? = some (.cells (planC s N) 161 (0, 0))) : (w1.setCell ⟨s + 4, 0, none⟩ (.int .i64 (M : Int))).heap[s + 4]? = some (.cells (planC s M) 161 (0, 0)) := by
  rw [heap_setCell_self h]; rfl
theorem PlanInv.gone (h : PlanInv w wy wr (X ++ [zk z k])) (hz : z.o.k = 3) :
    ∃ kvG, MapV wr (w.heap.size + 2) kvG ∧ ∀ w1, MapV w1 (w.heap.size + 2) (putV kvG ((takPl X + k : Nat) : Int) (.int .i64 1)) → (∀ j, j ≠ w.heap.size + 2 → w1.heap[j]? = wr.heap[j]?) → w1.heap.size = wr.heap.size → w1.os = wr.os → w1.tape = wr.tape → w1.output = wr.output →
      PlanInv w wy (w1.setCell ⟨w.heap.size + 4, 0, none⟩ (.int .i64 ((takPl X + k + 1 : Nat) : Int))) (X ++ [zk z (k + 1)]) := by
  have hz2 : ¬ z.o.k = 2 := by rw [hz]; decide
  obtain ⟨h1, h0, h2, h3, h4, h5, kI, kG, kP, lo, m1, m2, m3, m4, m5, m6, m7⟩ := h
  refine ⟨kG, m2, fun w1 g1 g2 g3 g4 g5 g6 => ?_⟩
  have e0 : takPl (X ++ [zk z k]) = takPl X + k := takPl_zk hz2
  have e1 : takPl (X ++ [zk z (k + 1)]) = takPl X + k + 1 := by rw [takPl_zk hz2]; omega
  have hs : ∀ j, j ≠ w.heap.size + 4 → (w1.setCell ⟨w.heap.size + 4, 0, none⟩ (.int .i64 ((takPl X + k + 1 : Nat) : Int))).heap[j]? = w1.heap[j]? := fun j hj => Below.heap_setCell w1 _ _ j hj
  have hsz : (w1.setCell ⟨w.heap.size + 4, 0, none⟩ (.int .i64 ((takPl X + k + 1 : Nat) : Int))).heap.size = w1.heap.size := by simp [World.setCell]
  have hl := lt_of_some h5
  refine ⟨(inv_turn (N := 0) h1 (by omega) g2 g3 g4 g5 g6).setCell (show w.heap.size ≤ w.heap.size + 4 by omega) _, h0, by rw [hsz, g3]; exact h2, fun j a b => by rw [hs j (by omega), g2 j (by omega)]; exact h3 j a b, by rw [hs _ (by omega), g2 _ (by omega)]; exact h4, ?_, kI, _, kP, (w1.setCell ⟨w.heap.size + 4, 0, none⟩ (.int .i64 ((takPl X + k + 1 : Nat) : Int))).heap.size, ?_, ?_, ?_, Nat.le_refl _, ?_, m6.put hz, m7.skip hz⟩
  · rw [e1]; exact plan_set ((g2 _ (by omega)).trans h5)
  · exact m1.keep (by rw [hs _ (by omega), g2 _ (by omega)])
  · exact g1.keep (hs _ (by omega))
  · exact m3.keep (by rw [hs _ (by omega), g2 _ (by omega)])
  · rw [e1]
    rw [e0] at m5
    have := m5.adv m4
    rw [hsz, g3]
    exact (this.keep fun j a b => by rw [hs j (by omega), g2 j (by omega)]).same fun g => by rw [insPl_zk hz2, insPl_zk hz2]
theorem PlanInv.pat (h : PlanInv w wy wr (X ++ [zk z k])) (hz2 : ¬ z.o.k = 2) (hz3 : ¬ z.o.k = 3) :
    ∃ kvP, MapV wr (w.heap.size + 3) kvP ∧ ∀ w1, MapV w1 (w.heap.size + 3) (putV kvP ((takPl X + k : Nat) : Int) (.slice z.Ap z.o.p.length z.cp)) → (∀ j, j ≠ w.heap.size + 3 → w1.heap[j]? = wr.heap[j]?) → w1.heap.size = wr.heap.size → w1.os = wr.os → w1.tape = wr.tape → w1.output = wr.output →
      PlanInv w wy (w1.setCell ⟨w.heap.size + 4, 0, none⟩ (.int .i64 ((takPl X + k + 1 : Nat) : Int))) (X ++ [zk z (k + 1)]) := by
  obtain ⟨h1, h0, h2, h3, h4, h5, kI, kG, kP, lo, m1, m2, m3, m4, m5, m6, m7⟩ := h
  refine ⟨kP, m3, fun w1 g1 g2 g3 g4 g5 g6 => ?_⟩
  have e0 : takPl (X ++ [zk z k]) = takPl X + k := takPl_zk hz2
  have e1 : takPl (X ++ [zk z (k + 1)]) = takPl X + k + 1 := by rw [takPl_zk hz2]; omega
  have hs : ∀ j, j ≠ w.heap.size + 4 → (w1.setCell ⟨w.heap.size + 4, 0, none⟩ (.int .i64 ((takPl X + k + 1 : Nat) : Int))).heap[j]? = w1.heap[j]? := fun j hj => Below.heap_setCell w1 _ _ j hj
  have hsz : (w1.setCell ⟨w.heap.size + 4, 0, none⟩ (.int .i64 ((takPl X + k + 1 : Nat) : Int))).heap.size = w1.heap.size := by simp [World.setCell]
  have hl := lt_of_some h5
  refine ⟨(inv_turn (N := 0) h1 (by omega) g2 g3 g4 g5 g6).setCell (show w.heap.size ≤ w.heap.size + 4 by omega) _, h0, by rw [hsz, g3]; exact h2, fun j a b => by rw [hs j (by omega), g2 j (by omega)]; exact h3 j a b, by rw [hs _ (by omega), g2 _ (by omega)]; exact h4, ?_, kI, kG, _, (w1.setCell ⟨w.heap.size + 4, 0, none⟩ (.int .i64 ((takPl X + k + 1 : Nat) : Int))).heap.size, ?_, ?_, ?_, Nat.le_refl _, ?_, m6.skip hz2 hz3, m7.put hz2 hz3⟩
  · rw [e1]; exact plan_set ((g2 _ (by omega)).trans h5)
  · exact m1.keep (by rw [hs _ (by omega), g2 _ (by omega)])
  · exact m2.keep (by rw [hs _ (by omega), g2 _ (by omega)])
  · exact g1.keep (hs _ (by omega))
  · rw [e1]
    rw [e0] at m5
    have := m5.adv m4
    rw [hsz, g3]
    exact (this.keep fun j a b => by rw [hs j (by omega), g2 j (by omega)]).same fun g => by rw [insPl_zk hz2, insPl_zk hz2]
theorem PlanInv.push (h : PlanInv w wy wr X) (hz : z.o.k = 2) :
    ∃ kvI A n c, MapV wr (w.heap.size + 1) kvI ∧ (findV kvI (takPl X : Int)).getD (.slice none 0 0) = .slice A n c ∧ OwOs wr wy.heap.size (.slice A n c) (insPl X (takPl X)) ∧
      ∀ wa w5 v' w7, Below wr.heap.size wr wa → OwOs w5 wy.heap.size v' (insPl X (takPl X) ++ [z]) → wa.grownBy w5 (wb (.slice A n c)) → (v' = .slice A n c ∧ w5 = wa ∨ wb v' = wb (.slice A n c) ∨ wb v' = some wa.heap.size) →
      MapV w7 (w.heap.size + 1) (putV kvI (takPl X : Int) v') → (∀ j, j ≠ w.heap.size + 1 → w7.heap[j]? = w5.heap[j]?) → w7.heap.size = w5.heap.size → w7.os = w5.os → w7.tape = w5.tape → w7.output = w5.output → PlanInv w wy w7 (X ++ [z]) := by
  obtain ⟨h1, h0, h2, h3, h4, h5, kI, kG, kP, lo, m1, m2, m3, m4, m5, m6, m7⟩ := h
  obtain ⟨A, n, c, e1, e2, e3, e4, e5⟩ := m5.2 (takPl X)
  refine ⟨kI, A, n, c, m1, e1, e3, fun wa w5 v' w7 hab ho hg hv g1 g2 g3 g4 g5 g6 => ?_⟩
  have ha := hab.size
  have e : takPl (X ++ [z]) = takPl X := by rw [takPl_snoc, if_pos hz]; omega
  have hl := lt_of_some h5
  have hrow : ∀ k, wb (.slice A n c) = some k → wy.heap.size ≤ k := fun k hk => (e3.wb_lt k hk).1
  have hlow : ∀ k, k < wy.heap.size → k ≠ w.heap.size + 1 → w7.heap[k]? = wr.heap[k]? := fun k hk hne => by
    rw [g2 k hne]
    exact (hg.block k (by omega) (fun e => by have := hrow k e.symm; omega)).trans (hab.block k (by omega))
  refine ⟨?_, h0, by have := hg.size; omega, fun k a b => (hlow k b (by omega)).trans (h3 k a b), (hlow _ (by omega) (by omega)).trans h4, ?_, putV kI (takPl X : Int) v', kG, kP, lo, g1, m2.keep (hlow _ (by omega) (by omega)), m3.keep (hlow _ (by omega) (by omega)), by have := hg.size; omega, ?_, m6.ins hz, m7.ins hz⟩
  · have b1 : Below w.heap.size w wa := h1.trans (hab.mono h1.size)
    have b2 : Below w.heap.size w w5 := b1.grown hg (by omega) (fun k hk => by have := hrow k hk; omega)
    exact b2.trans ⟨g4, g5, g6, by omega, fun k hk => g2 k (by omega)⟩
  · rw [e]; exact (hlow _ (by omega) (by omega)).trans h5
  · rw [e]
    exact m5.push rfl hz m4 e1 ha (fun k hk => hab.block k hk) ho hg hv (fun k hk => g2 k (by omega))
end
end Go.Proofs.YtfnkjcodcoehcaaGreatDoor
