/- What leads there inserts as many cells as what leads back deletes. Plain mathematics, and what moved tells of it. -/
import Derived.Test.YtipoeidmblnbbaaGreatDoorPk37
import Derived.Test.YtipoeidmblnbbaaGreatDoorMovedPd
namespace Go.Proofs.YtipoeidmblnbbaaGreatDoor
set_option linter.unusedVariables false
set_option linter.unusedSimpArgs false

def insN : List Un → Nat
  | [] => 0
  | .ins _ _ :: us => insN us + 1
  | .del :: us => insN us
  | .ret _ :: us => insN us
def delN : List Un → Nat
  | [] => 0
  | .ins _ _ :: us => delN us
  | .del :: us => delN us + 1
  | .ret _ :: us => delN us
theorem cnt_append (a b : List Un) : insN (a ++ b) = insN a + insN b ∧ delN (a ++ b) = delN a + delN b := by
  induction a with
  | nil => simp [insN, delN]
  | cons u a ih => obtain ⟨h1, h2⟩ := ih; cases u <;> simp [insN, delN, h1, h2] <;> omega
theorem cnt_del (g : Nat) : insN (List.replicate g .del) = 0 ∧ delN (List.replicate g .del) = g := by
  induction g with
  | zero => exact ⟨rfl, rfl⟩
  | succ g ih => rw [List.replicate_succ]; exact ⟨ih.1, by show delN _ + 1 = _; rw [ih.2]⟩
theorem cnt_ret (g : Nat) (p : List Ch) : insN (List.replicate g (.ret p)) = 0 ∧ delN (List.replicate g (.ret p)) = 0 := by
  induction g with
  | zero => exact ⟨rfl, rfl⟩
  | succ g ih => rw [List.replicate_succ]; exact ih
theorem cnt_run (r : List Int) (s : List At) : insN (r.map (fun r => Un.ins r s)) = r.length ∧ delN (r.map (fun r => Un.ins r s)) = 0 := by
  induction r with
  | nil => exact ⟨rfl, rfl⟩
  | cons a r ih => exact ⟨by show insN (r.map _) + 1 = _; rw [ih.1]; rfl, ih.2⟩
theorem cnt_inss (z : List Cl) : insN (z.map insU) = z.length ∧ delN (z.map insU) = 0 := by
  induction z with
  | nil => exact ⟨rfl, rfl⟩
  | cons a z ih => exact ⟨by show insN (z.map insU) + 1 = _; rw [ih.1]; rfl, ih.2⟩
theorem cnt_pairs (z : List (Cl × Cl)) : insN (z.map retU) = 0 ∧ delN (z.map retU) = 0 := by
  induction z with
  | nil => exact ⟨rfl, rfl⟩
  | cons a z ih => exact ih
theorem cn_cnt (us : List Un) : ∀ (I : List Un) (g : Nat), insN (cn us I g) = insN I + insN us ∧ delN (cn us I g) = delN I + g + delN us := by
  induction us with
  | nil => intro I g; rw [cn, (cnt_append _ _).1, (cnt_append _ _).2, (cnt_del g).1, (cnt_del g).2]; exact ⟨rfl, rfl⟩
  | cons u us ih =>
    intro I g
    cases u with
    | ins r s =>
      rw [cn, (ih _ _).1, (ih _ _).2, (cnt_append _ _).1, (cnt_append _ _).2]
      show insN I + 1 + insN us = insN I + (insN us + 1) ∧ delN I + 0 + g + delN us = delN I + g + delN us
      omega
    | del =>
      rw [cn, (ih _ _).1, (ih _ _).2]
      show insN I + insN us = insN I + insN us ∧ delN I + (g + 1) + delN us = delN I + g + (delN us + 1)
      omega
    | ret p =>
      rw [cn, (cnt_append _ _).1, (cnt_append _ _).2, (cnt_append _ _).1, (cnt_append _ _).2, (cnt_del g).1, (cnt_del g).2]
      show insN I + 0 + insN (cn us [] 0) = insN I + insN us ∧ delN I + g + delN (cn us [] 0) = delN I + g + delN us
      rw [(ih _ _).1, (ih _ _).2]
      show insN I + 0 + (0 + insN us) = insN I + insN us ∧ delN I + g + (0 + 0 + delN us) = delN I + g + delN us
      omega
theorem nf_cnt (us : List Un) : insN (nf us) = insN us ∧ delN (nf us) = delN us := by
  obtain ⟨k, hk⟩ := trim_pre (canon us)
  have h1 := congrArg insN hk
  have h2 := congrArg delN hk
  rw [(cnt_append _ _).1, (cnt_ret k []).1] at h1
  rw [(cnt_append _ _).2, (cnt_ret k []).2] at h2
  have h3 := cn_cnt us [] 0
  have h4 : insN (canon us) = insN us := by rw [canon, h3.1]; simp [insN]
  have h5 : delN (canon us) = delN us := by rw [canon, h3.2]; simp [delN]
  show insN (trim (canon us)) = _ ∧ delN (trim (canon us)) = _
  omega
theorem cpl_comm {α : Type} [DecidableEq α] : ∀ (x y : List α), cpl x y = cpl y x
  | [], [] => rfl
  | [], _ :: _ => by simp [cpl]
  | _ :: _, [] => by simp [cpl]
  | a :: x, b :: y => by
    unfold cpl
    by_cases h : a = b
    · subst h; rw [if_pos rfl, if_pos rfl, cpl_comm x y]
    · rw [if_neg h, if_neg (fun h' => h h'.symm)]
theorem begD_comm (d e : List Cl) : begD d e = begD e d := by unfold begD; rw [cpl_comm, Nat.min_comm d.length]
theorem endD_comm (d e : List Cl) : endD d e = endD e d := by unfold endD; rw [cpl_comm]
theorem diffU_cnt (d e : List Cl) : insN (diffU d e) = e.length - begD d e - endD (d.drop (begD d e)) (e.drop (begD d e)) ∧ delN (diffU d e) = d.length - begD d e - endD (d.drop (begD d e)) (e.drop (begD d e)) := by
  unfold diffU diffU1
  generalize begD d e = n
  generalize hk : endD (d.drop n) (e.drop n) = k
  rw [(cnt_append _ _).1, (cnt_append _ _).2, (cnt_append _ _).1, (cnt_append _ _).2, (cnt_append _ _).1, (cnt_append _ _).2, (cnt_ret _ _).1, (cnt_ret _ _).2, (cnt_inss _).1, (cnt_inss _).2, (cnt_del _).1, (cnt_del _).2, (cnt_pairs _).1, (cnt_pairs _).2, List.length_take, List.length_drop, List.length_drop]
  omega
theorem diffU_back (d e : List Cl) : insN (diffU d e) = delN (diffU e d) ∧ delN (diffU d e) = insN (diffU e d) := by
  rw [(diffU_cnt d e).1, (diffU_cnt d e).2, (diffU_cnt e d).1, (diffU_cnt e d).2, begD_comm e d, endD_comm (e.drop (begD d e))]
  exact ⟨rfl, rfl⟩
theorem cnt_one {o : Opd} (h : isOp o) : (insN (unitsO o) : Int) = (o.r.length : Int) ∧ (delN (unitsO o) : Int) = if o.k = 3 then o.n else 0 := by
  rcases isOp_kind h with hk | hk | hk
  · obtain ⟨e, hr⟩ := opI_of h hk
    rw [if_neg (by rw [hk]; decide)]
    rw [e, unitsO_I]
    exact ⟨by rw [(cnt_run _ _).1]; rfl, by rw [(cnt_run _ _).2]; rfl⟩
  · obtain ⟨e, hn⟩ := opD_of h hk
    rw [if_pos hk]
    have e2 : o.r = [] := by rw [e]; rfl
    rw [e2, e, unitsO_D, (cnt_del _).1, (cnt_del _).2]
    exact ⟨rfl, by show ((o.n.toNat : Nat) : Int) = o.n; omega⟩
  · obtain ⟨e, hn⟩ := opR_of h hk
    rw [if_neg (by rw [hk]; decide)]
    have e2 : o.r = [] := by rw [e]; rfl
    rw [e2, e, unitsO_R, (cnt_ret _ _).1, (cnt_ret _ _).2]
    exact ⟨rfl, rfl⟩
theorem cnt_sums : ∀ (x : List OpS), (∀ o ∈ x, isOp o.o) → (insN (units (osOf x)) : Int) = insO x ∧ (delN (units (osOf x)) : Int) = goneO x
  | [], _ => ⟨rfl, rfl⟩
  | o :: x, h => by
    obtain ⟨h1, h2⟩ := cnt_sums x (fun z hz => h z (List.mem_cons_of_mem _ hz))
    obtain ⟨g1, g2⟩ := cnt_one (h o (by simp))
    show ((insN (units (o.o :: osOf x)) : Nat) : Int) = (o.o.r.length : Int) + insO x ∧ ((delN (units (o.o :: osOf x)) : Nat) : Int) = (if o.o.k = 3 then o.o.n else 0) + goneO x
    rw [units_cons, (cnt_append _ _).1, (cnt_append _ _).2, ← g1, ← g2]
    omega
theorem made_cnt {x : List OpS} {us : List Un} (hx : osOf x = mkU us) : insO x = (insN us : Int) ∧ goneO x = (delN us : Int) := by
  obtain ⟨h1, h2⟩ := cnt_sums x (mkU_isOp hx)
  rw [mkU_units hx, (nf_cnt us).1] at h1
  rw [mkU_units hx, (nf_cnt us).2] at h2
  exact ⟨h1.symm, h2.symm⟩
theorem ins_append (a b : List OpS) : insO (a ++ b) = insO a + insO b ∧ goneO (a ++ b) = goneO a + goneO b := by
  induction a with
  | nil => simp [insO, goneO]
  | cons o a ih => obtain ⟨h1, h2⟩ := ih; simp only [List.cons_append, insO, goneO, h1, h2]; omega
theorem cnt_le (us : List Un) : insN us + delN us ≤ us.length := by
  induction us with
  | nil => exact Nat.le_refl _
  | cons u us ih => cases u <;> simp only [insN, delN, List.length_cons] <;> omega
theorem moved_range {x : List OpS} {us : List Un} (hx : osOf x = mkU us) (hu : us.length ≤ 536870912) (m : Nat) : 0 ≤ insO (x.take m) ∧ insO (x.take m) ≤ 536870912 ∧ 0 ≤ goneO (x.take m) ∧ goneO (x.take m) ≤ 536870912 := by
  have hi := mkU_isOp hx
  obtain ⟨a1, a2⟩ := cnt_sums (x.take m) (fun o ho => hi o (List.mem_of_mem_take ho))
  obtain ⟨b1, b2⟩ := cnt_sums (x.drop m) (fun o ho => hi o (List.mem_of_mem_drop ho))
  obtain ⟨c1, c2⟩ := ins_append (x.take m) (x.drop m)
  rw [List.take_append_drop] at c1 c2
  obtain ⟨d1, d2⟩ := made_cnt hx
  have := cnt_le us
  omega
end Go.Proofs.YtipoeidmblnbbaaGreatDoor
