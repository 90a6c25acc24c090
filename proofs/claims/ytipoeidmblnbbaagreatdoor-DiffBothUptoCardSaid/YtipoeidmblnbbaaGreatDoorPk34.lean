/- Merged texts: UMade, OpsCap. -/
import Derived.Test.YtipoeidmblnbbaaGreatDoorPk24
import Derived.Test.YtipoeidmblnbbaaGreatDoorPk26
/- Units and their ops, both ways: what a maker makes, told by units alone. Plain mathematics. -/
namespace Go.Proofs.YtipoeidmblnbbaaGreatDoor
set_option linter.unusedVariables false
set_option linter.unusedSimpArgs false

/-- the ops of units in their normal form -/
def mkU (us : List Un) : List Opd := enc (nf us)
theorem isOp_one (u : Un) : isOp (op1 u) := by
  cases u with
  | ins r s => exact .inl ⟨rfl, rfl, by simp [op1, opI], rfl⟩
  | del => exact .inr (.inl ⟨rfl, by show (1 : Int) ≤ 1; decide, rfl, rfl, rfl⟩)
  | ret p => exact .inr (.inr ⟨rfl, by show (1 : Int) ≤ 1; decide, rfl, rfl⟩)
theorem unitsO_one (u : Un) : unitsO (op1 u) = [u] := by cases u <;> rfl
theorem into_ok {u : Un} {b : Opd} (hb : isOp b) (h : canMerge (op1 u) b = true) : isOp (into u b) ∧ unitsO (into u b) = u :: unitsO b ∧ ∀ c, canMerge (into u b) c = canMerge b c := by
  obtain ⟨k, n, r, s, p⟩ := b
  rcases isOp_kind hb with hk | hk | hk
  · obtain ⟨e, hr⟩ := opI_of hb hk
    simp only at hk hr e
    subst hk
    rw [e] at h ⊢
    cases u with
    | del => simp [canMerge, op1, opI, opD] at h
    | ret q => simp [canMerge, op1, opI, opR] at h
    | ins r2 s2 =>
      have hs : s2 = s := by simp [canMerge, op1, opI] at h; exact of_decide_eq_true h
      subst hs
      exact ⟨.inl ⟨rfl, rfl, by simp [into, opI], rfl⟩, rfl, fun c => rfl⟩
  · obtain ⟨e, hn⟩ := opD_of hb hk
    simp only at hk hn e
    subst hk
    rw [e] at h ⊢
    cases u with
    | ins r2 s2 => simp [canMerge, op1, opI, opD] at h
    | ret q => simp [canMerge, op1, opD, opR] at h
    | del =>
      refine ⟨.inr (.inl ⟨rfl, by show 1 ≤ n + 1; omega, rfl, rfl, rfl⟩), ?_, fun c => rfl⟩
      show List.replicate (n + 1).toNat Un.del = .del :: List.replicate n.toNat .del
      rw [show (n + 1).toNat = n.toNat + 1 by omega, List.replicate_succ]
  · obtain ⟨e, hn⟩ := opR_of hb hk
    simp only at hk hn e
    subst hk
    rw [e] at h ⊢
    cases u with
    | ins r2 s2 => simp [canMerge, op1, opI, opR] at h
    | del => simp [canMerge, op1, opD, opR] at h
    | ret q =>
      have hq : q = p := by simp [canMerge, op1, opR] at h; exact of_decide_eq_true h
      subst hq
      refine ⟨.inr (.inr ⟨rfl, by show 1 ≤ n + 1; omega, rfl, rfl⟩), ?_, fun c => rfl⟩
      show List.replicate (n + 1).toNat (Un.ret q) = .ret q :: List.replicate n.toNat (.ret q)
      rw [show (n + 1).toNat = n.toNat + 1 by omega, List.replicate_succ]
theorem cons1_ok (u : Un) {x : List Opd} (h : tight x) : tight (cons1 u x) ∧ units (cons1 u x) = u :: units x := by
  cases x with
  | nil => exact ⟨⟨isOp_one u, trivial, trivial⟩, by show units [op1 u] = _; rw [units_one, unitsO_one]; rfl⟩
  | cons b t =>
    obtain ⟨h1, h2, h3⟩ := h
    have ec : cons1 u (b :: t) = if canMerge (op1 u) b = true then into u b :: t else op1 u :: b :: t := rfl
    rw [ec]
    by_cases hm : canMerge (op1 u) b = true
    · rw [if_pos hm]
      obtain ⟨g1, g2, g3⟩ := into_ok h1 hm
      refine ⟨⟨g1, ?_, h3⟩, by rw [units_cons, g2, units_cons]; rfl⟩
      cases t with
      | nil => trivial
      | cons c t => show canMerge (into u b) c = false; rw [g3]; exact h2
    · rw [if_neg hm]
      exact ⟨⟨isOp_one u, by simpa using hm, h1, h2, h3⟩, by rw [units_cons, unitsO_one]; rfl⟩
theorem enc_ok : ∀ us : List Un, tight (enc us) ∧ units (enc us) = us
  | [] => ⟨trivial, rfl⟩
  | u :: us => by
    obtain ⟨h1, h2⟩ := enc_ok us
    obtain ⟨g1, g2⟩ := cons1_ok u h1
    exact ⟨g1, by show units (cons1 u (enc us)) = _; rw [g2, h2]⟩
theorem mkU_ok (us : List Un) : tight (mkU us) ∧ units (mkU us) = nf us := enc_ok (nf us)
theorem told_mkU {m : Mk} {us : List Un} (h : Told m us) : mkOps m = mkU us := tight_ext h.ops.1 (mkU_ok us).1 (by rw [h.ops.2, (mkU_ok us).2])
theorem mkU_isOp {x : List OpS} {us : List Un} (hx : osOf x = mkU us) : ∀ o ∈ x, isOp o.o := fun o ho => tight_isOp (by rw [hx]; exact (mkU_ok us).1 : tight (osOf x)) o.o (by unfold osOf; exact List.mem_map_of_mem ho)
theorem mkU_units {x : List OpS} {us : List Un} (hx : osOf x = mkU us) : units (osOf x) = nf us := by rw [hx]; exact (mkU_ok us).2
theorem mkU_nf (us : List Un) : mkU (nf us) = mkU us := by unfold mkU; rw [nf_again]
/-- ops that are their normal form -/
theorem mkU_self {us : List Un} : mkU (units (mkU us)) = mkU us := by rw [(mkU_ok us).2, mkU_nf]
theorem made_applyU {l : List Ky} {x : List OpS} {us : List Un} {d : List Cl} {most : Nat} (hx : osOf x = mkU us) (hb : x.length ≤ 1048576) (hmo : most ≤ 4294967296) (hd : mayD l d = 0) (hf : FitU l us d.length most) :
    applyN l x d (most : Int) = 0 ∧ app l (units (osOf x)) d = app l us d := by
  have h2 := mkU_units hx
  refine ⟨zero_applyN hd (units_fits hb hmo (mkU_isOp hx) (by rw [h2]; exact fit_nf hf)), ?_⟩
  rw [h2, app_nf]
theorem mkU_empty {us : List Un} : mkU us = [] ↔ nf us = [] := by
  constructor
  · intro h
    have := (mkU_ok us).2
    rw [h] at this
    exact this.symm
  · intro h
    unfold mkU; rw [h]; rfl
theorem cn_len (us : List Un) : ∀ (I : List Un) (g : Nat), (cn us I g).length = us.length + I.length + g := by
  induction us with
  | nil => intro I g; simp [cn]
  | cons u us ih =>
    intro I g
    cases u with
    | ins r s => rw [cn, ih]; simp; omega
    | del => rw [cn, ih]; simp; omega
    | ret p => rw [cn, List.length_append, List.length_append, List.length_cons, ih]; simp; omega
theorem nf_len (us : List Un) : (nf us).length ≤ us.length := by
  have h1 : (canon us).length = us.length := by unfold canon; rw [cn_len]; rfl
  obtain ⟨k, hk⟩ := trim_pre (canon us)
  have := congrArg List.length hk
  rw [List.length_append] at this
  show (trim (canon us)).length ≤ _
  omega
theorem unitsO_len {o : Opd} (h : isOp o) : 1 ≤ (unitsO o).length ∧ o.r.length ≤ (unitsO o).length := by
  rcases isOp_kind h with hk | hk | hk
  · obtain ⟨e, hr⟩ := opI_of h hk
    have : (unitsO o).length = o.r.length := by unfold unitsO; rw [if_pos hk, List.length_map]
    have := List.length_pos_iff.2 hr
    omega
  · obtain ⟨e, hn⟩ := opD_of h hk
    have h1 : (unitsO o).length = o.n.toNat := by unfold unitsO; rw [if_neg (by rw [hk]; decide), if_neg (by rw [hk]; decide), List.length_replicate]
    have h2 : o.r = [] := by rw [e]; rfl
    rw [h1, h2]
    refine ⟨by omega, Nat.zero_le _⟩
  · obtain ⟨e, hn⟩ := opR_of h hk
    have h1 : (unitsO o).length = o.n.toNat := by unfold unitsO; rw [if_neg (by rw [hk]; decide), if_pos hk, List.length_replicate]
    have h2 : o.r = [] := by rw [e]; rfl
    rw [h1, h2]
    refine ⟨by omega, Nat.zero_le _⟩
end Go.Proofs.YtipoeidmblnbbaaGreatDoor
/- The rooms of ops' parts, and what a maker makes has them. -/
namespace Go.Proofs.YtipoeidmblnbbaaGreatDoor
open Go.RowKit
set_option linter.unusedVariables false
set_option linter.unusedSimpArgs false

/-- an op's parts have room for what they hold -/
def capO (o : OpS) : Prop := (o.o.r.length ≤ o.cr ∧ o.cr ≤ maxLen) ∧ (o.o.s.length ≤ o.cs ∧ o.cs ≤ maxLen) ∧ (o.o.p.length ≤ o.cp ∧ o.cp ≤ maxLen)
theorem cap_own {α : Type} {enc : α → List Value} {size : Nat} {e : TypeId} {w : World} {B : Nat} {A : Option Addr} {n c : Nat} {l : List α} (h : Ow enc size e w B (.slice A n c) l) : l.length ≤ c ∧ c ≤ maxLen := by
  obtain ⟨A', c', hv, h1, h2⟩ := h.form
  injection hv with _ _ hcc
  subst hcc
  exact ⟨h1, h2⟩
theorem cap_part {w : World} {B g : Nat} {x : OpS} (h : PartN w B g x) : capO x := ⟨cap_own h.1.1, cap_own h.2.1.1, cap_own h.2.2.1⟩
/-- ops at hand with their rooms -/
structure OpsC (w : World) (A : Option Addr) (n c : Nat) (x : List OpS) : Prop where
  at_ : OpsAt w A n x
  cap : n ≤ c
  cm : c ≤ maxLen
  caps : ∀ o ∈ x, capO o
theorem OpsC.ext {w w' : World} {A : Option Addr} {n c : Nat} {x : List OpS} (h : OpsC w A n c x) (y : Below w.heap.size w w') : OpsC w' A n c x := ⟨h.at_.ext y, h.cap, h.cm, h.caps⟩
theorem OpsC.nil (w : World) : OpsC w none 0 0 [] := ⟨⟨⟨Rd.nil, fun z hz => by cases hz⟩, rfl, (fun z hz => by cases hz), by omega⟩, Nat.le_refl _, by unfold maxLen; omega, fun z hz => by cases hz⟩
/-- no error, and ops of the call's own -/
def NewOpOk (o : List Opd) (w : World) (e : Ending) (w' : World) : Prop :=
  ∃ A c x, e = .returned (.tuple #[.slice A x.length c, .int .i64 0]) ∧ osOf x = o ∧ OpsC w' A x.length c x ∧ Below w.heap.size w w'
/-- ops of the call's own -/
def NewOpC (o : List Opd) (w : World) (e : Ending) (w' : World) : Prop :=
  ∃ A c x, e = .returned (.slice A x.length c) ∧ osOf x = o ∧ OpsC w' A x.length c x ∧ Below w.heap.size w w'
/-- what a maker that was told units has made -/
theorem NewOps.opC {m : Mk} {us : List Un} {K S : Nat} {w w' : World} {e : Ending} (h : NewOps (mkOps m) w e w') (ht : Told m us) (hu : ∀ u ∈ us, okUn u) (hB : MkB m K S) (hK : K ≤ 900000) (hS : S ≤ 100000000) : NewOpC (mkU us) w e w' := by
  obtain ⟨A, c, x, he, hx, ho, hp, y⟩ := h
  obtain ⟨h1, h2⟩ := ok_made hx ht hu hB (by omega) hS
  obtain ⟨c1, c2⟩ := cap_own ho
  exact ⟨A, c, x, he, hx.trans (told_mkU ht), ⟨⟨rd_made ho hp, rfl, h1, by omega⟩, c1, c2, fun z hz => by obtain ⟨g, hg⟩ := hp z hz; exact cap_part hg⟩, y⟩
end Go.Proofs.YtipoeidmblnbbaaGreatDoor
