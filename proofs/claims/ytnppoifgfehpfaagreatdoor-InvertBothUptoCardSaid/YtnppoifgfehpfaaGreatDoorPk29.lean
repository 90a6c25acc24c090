/- Merged texts: DocKit, UMade, OpsCap, InvLaw, MkBox, ComLaw, BothM, ComStep, ComStep2. -/
import Derived.Test.YtnppoifgfehpfaaGreatDoorPk19
import Derived.Test.YtnppoifgfehpfaaGreatDoorPk25
import Derived.Test.YtnppoifgfehpfaaGreatDoorPk15
import Derived.Test.YtnppoifgfehpfaaGreatDoorPk24
import Derived.Test.YtnppoifgfehpfaaGreatDoorPk18
import Derived.Test.YtnppoifgfehpfaaGreatDoorPk16
import Derived.Test.YtnppoifgfehpfaaGreatDoorPk26
/- Cells and ops at hand, and what is called with them: the words of the document laws. -/
namespace Go.Proofs.YtnppoifgfehpfaaGreatDoor
open Go.RowKit
set_option linter.unusedVariables false
set_option linter.unusedSimpArgs false

theorem Tryz.elOpD : Tryz.prog.elem 24 = 54 := by kernel_rfl
theorem Tryz.szOpD : (Tryz.prog.info? 54).map (·.size) = some 5 := by kernel_rfl
theorem size_opD (W : World) : (sizeOf 54).run Tryz.prog W = .ok 5 W := by
  cases h : Tryz.prog.info? 54 with
  | none => have := Tryz.szOpD; rw [h] at this; cases this
  | some i => have := Tryz.szOpD; rw [h] at this; simp at this; simp [sizeOf, typeInfo, h, this]
/-- cells at hand -/
structure DocAt (w : World) (A : Option Addr) (n c : Nat) (L : List ClS) : Prop where
  rd : RdCl w w.heap.size A L
  len : n = L.length
  cap : n ≤ c
  caps : ∀ z ∈ L, z.c.s.length ≤ z.cs ∧ z.cs ≤ maxLen
  vr : ∀ z ∈ L, z.c.s.length ≤ 1000000 ∧ okVr z.c.s
  b : n ≤ 20000
/-- ops at hand -/
structure OpsAt (w : World) (A : Option Addr) (n : Nat) (x : List OpS) : Prop where
  rd : RdOp w w.heap.size A x
  len : n = x.length
  ok : ∀ o ∈ x, okOp o.o
  b : n ≤ 1000000
theorem DocAt.ext {w w' : World} {A : Option Addr} {n c : Nat} {L : List ClS} (h : DocAt w A n c L) (y : Below w.heap.size w w') : DocAt w' A n c L := ⟨h.rd.ext y, h.len, h.cap, h.caps, h.vr, h.b⟩
theorem OpsAt.ext {w w' : World} {A : Option Addr} {n : Nat} {x : List OpS} (h : OpsAt w A n x) (y : Below w.heap.size w w') : OpsAt w' A n x := ⟨h.rd.ext y, h.len, h.ok, h.b⟩
theorem mem_cls {L : List ClS} {z : ClS} (h : z ∈ L) : z.c ∈ clsOf L := by unfold clsOf; exact List.mem_map_of_mem h
theorem cls_mem {L : List ClS} {c : Cl} (h : c ∈ clsOf L) : ∃ z ∈ L, z.c = c := by
  obtain ⟨z, hz, e⟩ := List.mem_map.1 h
  exact ⟨z, hz, e⟩
theorem DocAt.cvr {w : World} {A : Option Addr} {n c : Nat} {L : List ClS} (h : DocAt w A n c L) : ∀ x ∈ clsOf L, okVr x.s := fun x hx => by
  obtain ⟨z, hz, rfl⟩ := cls_mem hx
  exact (h.vr z hz).2
theorem DocAt.clen {w : World} {A : Option Addr} {n c : Nat} {L : List ClS} (h : DocAt w A n c L) : (clsOf L).length = n := by rw [clsOf_len, ← h.len]
theorem DocAt.take {w : World} {A : Option Addr} {n c k : Nat} {L : List ClS} (h : DocAt w A n c L) (hk : k ≤ n) : DocAt w A k c (L.take k) :=
  ⟨h.rd.take k, by rw [List.length_take, ← h.len]; omega, by have := h.cap; omega, fun z hz => h.caps z (List.mem_of_mem_take hz), fun z hz => h.vr z (List.mem_of_mem_take hz), by have := h.b; omega⟩
theorem DocAt.drop {w : World} {A A' : Option Addr} {n c k n' c' : Nat} {L : List ClS} (h : DocAt w A n c L) (hA : advS A c k 2 = A') (hk : k ≤ n) (hn : n - k = n') (hc : c - k = c') : DocAt w A' n' c' (L.drop k) :=
  ⟨h.rd.from hA (by rw [← h.len]; exact hk) (by rw [← h.len]; exact h.cap), by rw [List.length_drop, ← h.len]; omega, by have := h.cap; omega, fun z hz => h.caps z (List.mem_of_mem_drop hz), fun z hz => h.vr z (List.mem_of_mem_drop hz), by have := h.b; omega⟩
/-- cells of the call's own are at hand -/
theorem DocAt.made {w : World} {B B2 : Nat} {A : Option Addr} {c : Nat} {v : Value} {L : List ClS} (ho : OwCs w B (.slice A L.length c) L) (hp : ∀ z ∈ L, PartC w B2 v z) (hv : ∀ x ∈ clsOf L, x.s.length ≤ 1000000 ∧ okVr x.s) (hb : L.length ≤ 20000) : DocAt w A L.length c L := by
  obtain ⟨h1, h2, h3⟩ := rd_cells ho hp
  exact ⟨h1, rfl, h3, h2, fun z hz => hv _ (mem_cls hz), hb⟩
/-- cells behind cells, appended to a row of the call's own -/
theorem DocAt.append {wn wa : World} {B : Nat} {A A' A4 : Option Addr} {n c c' n4 c4 : Nat} {P G : List ClS} (ho : OwCs wa B (.slice A' (P ++ G).length c') (P ++ G)) (hp : ∀ z ∈ P, PartC wn B (.slice A n c) z) (hg : DocAt wa A4 n4 c4 G) (hv : ∀ x ∈ clsOf P, x.s.length ≤ 1000000 ∧ okVr x.s)
    (hgr : wn.grownBy wa (wb (.slice A n c))) (hv' : Value.slice A' (P ++ G).length c' = .slice A n c ∧ wa = wn ∨ wb (.slice A' (P ++ G).length c') = wb (.slice A n c) ∨ wb (.slice A' (P ++ G).length c') = some wn.heap.size) (hb : (P ++ G).length ≤ 20000) : DocAt wa A' (P ++ G).length c' (P ++ G) := by
  have hP : ∀ z ∈ P, RdAt wa wa.heap.size z.As z.c.s ∧ z.c.s.length ≤ z.cs ∧ z.cs ≤ maxLen := fun z hz => by
    have h1 := ((hp z hz).app hgr hv').1
    refine ⟨h1.rd At.enc_len, ?_⟩
    obtain ⟨_, _, hv, hc1, hc2⟩ := h1.form
    injection hv with _ _ hcc
    subst hcc
    exact ⟨hc1, hc2⟩
  refine ⟨⟨ho.rd ClS.enc_len, fun z hz => ?_⟩, rfl, ho.cap.1, fun z hz => ?_, fun z hz => ?_, hb⟩
  · rcases List.mem_append.1 hz with hz | hz
    · exact (hP z hz).1
    · exact hg.rd.2 z hz
  · rcases List.mem_append.1 hz with hz | hz
    · exact (hP z hz).2
    · exact hg.caps z hz
  · rcases List.mem_append.1 hz with hz | hz
    · exact hv _ (mem_cls hz)
    · exact hg.vr z hz
/-- what a call answers that makes cells -/
def NewDoc (o : List Cl) (w : World) (e : Ending) (w' : World) : Prop :=
  ∃ A c L, e = .returned (.slice A L.length c) ∧ clsOf L = o ∧ DocAt w' A L.length c L ∧ Below w.heap.size w w'
theorem NewCls.doc {o : List Cl} {w w' : World} {e : Ending} (h : NewCls o w e w') (hv : ∀ x ∈ o, x.s.length ≤ 1000000 ∧ okVr x.s) (hb : o.length ≤ 20000) : NewDoc o w e w' := by
  obtain ⟨A, c, L, he, hL, ho, hp, y⟩ := h
  exact ⟨A, c, L, he, hL, DocAt.made ho hp (by rw [hL]; exact hv) (by rw [← clsOf_len, hL]; exact hb), y⟩
/-- what a call answers that makes ops -/
def NewOp (o : List Opd) (w : World) (e : Ending) (w' : World) : Prop :=
  ∃ A c x, e = .returned (.slice A x.length c) ∧ osOf x = o ∧ OpsAt w' A x.length x ∧ Below w.heap.size w w'
theorem NewOps.op {m : Mk} {us : List Un} {K S : Nat} {w w' : World} {e : Ending} (h : NewOps (mkOps m) w e w') (ht : Told m us) (hu : ∀ u ∈ us, okUn u) (hB : MkB m K S) (hK : K ≤ 900000) (hS : S ≤ 100000000) : NewOp (mkOps m) w e w' := by
  obtain ⟨A, c, x, he, hx, ho, hp, y⟩ := h
  obtain ⟨h1, h2⟩ := ok_made hx ht hu hB (by omega) hS
  exact ⟨A, c, x, he, hx, ⟨rd_made ho hp, rfl, h1, by omega⟩, y⟩
section
variable {w : World} {A B : Option Addr} {n c n2 c2 : Nat} {L M : List ClS}
theorem sameD (h1 : DocAt w A n c L) (h2 : DocAt w B n2 c2 M) {b : Bool} (hb : decide (clsOf L = clsOf M) = b) : Calls Tryz.prog 22 #[.slice A n c, .slice B n2 c2] w fun e w' => e = .returned (.bool b) ∧ Below w.heap.size w w' := by
  have h := cellsSame_any A B n n2 c c2 L M w h1.len h2.len h1.rd h2.rd (by have := h1.b; omega) (by have := h2.b; omega) (fun x hx => by have := (h1.vr x hx).1; omega) (fun x hx => by have := (h2.vr x hx).1; omega)
  rw [hb] at h
  exact h
theorem mayDoc {s : Nat} {l : List Ky} (h : DocAt w A n c L) (hS : Sch w s l) (hT : Lib.Utf8Tabs 1 2 w) {r : Int} (hr : mayD l (clsOf L) = r) : Calls Tryz.prog 67 #[.pointer (some ⟨s, 0, none⟩), .slice A n c] w fun e w' => e = .returned (.int .i64 r) ∧ Below w.heap.size w w' := by
  have h1 := mayCells_any s l A n c L w h.len h.rd (by have := h.b; omega) hS (fun x hx => ⟨by have := (h.vr x hx).1; omega, (h.vr x hx).2⟩) hT
  rw [hr] at h1
  exact h1
theorem applyDocI {s : Nat} {l : List Ky} {most : Int} {N : Nat} {x : List OpS} (h : DocAt w A n c L) (hx : OpsAt w B n2 x) (hS : Sch w s l) (hT : Lib.Utf8Tabs 1 2 w) (hl : l.length ≤ 64) (hmo : N ≤ 10000)
    {us : List Un} (hz : applyN l x (clsOf L) most = 0) (hN : applyN l x (clsOf L) (N : Int) = 0) (hu : app l (units (osOf x)) (clsOf L) = app l us (clsOf L)) :
    Calls Tryz.prog 21 #[.pointer (some ⟨s, 0, none⟩), .slice A n c, .slice B n2 c2, .int .i64 most] w (fun e w' => ∃ A c M, e = .returned (.tuple #[.slice A M.length c, .int .i64 0]) ∧ clsOf M = app l us (clsOf L) ∧ mayD l (clsOf M) = 0 ∧ M.length ≤ N ∧ DocAt w' A M.length c M ∧ Below w.heap.size w w') := by
  refine (applyD_any s l A B n c n2 c2 L x most w h.len hx.len h.cap (by have := h.b; omega) (by have := hx.b; omega) h.rd hx.rd hS (fun z hz => ⟨by have := (h.vr z hz).1; omega, (h.vr z hz).2⟩) h.caps hx.ok hT).mono ?_
  rintro e w' ⟨y, ⟨hne, _⟩ | ⟨_, A', c', M, rfl, hM, oM, pM⟩⟩
  · exact absurd hz hne
  · obtain ⟨hg, hf, cm⟩ := came hl (by have := hx.b; have := hx.len; omega) (by omega) hx.ok h.cvr hN
    rw [← hM] at cm
    have hlen : M.length ≤ N := by
      have h1 := cm.len
      have h2 := hf.m
      rw [clsOf_len] at h1
      omega
    exact ⟨A', c', M, rfl, hM.trans hu, cm.may, hlen, DocAt.made oM pM (fun z hz => ⟨by have := cm.s64 z hz; omega, cm.vr z hz⟩) (by omega), y⟩
theorem applyDoc {s : Nat} {l : List Ky} {most : Nat} {x : List OpS} (h : DocAt w A n c L) (hx : OpsAt w B n2 x) (hS : Sch w s l) (hT : Lib.Utf8Tabs 1 2 w) (hl : l.length ≤ 64) (hmo : most ≤ 10000)
    {us : List Un} (hz : applyN l x (clsOf L) (most : Int) = 0) (hu : app l (units (osOf x)) (clsOf L) = app l us (clsOf L)) :
    Calls Tryz.prog 21 #[.pointer (some ⟨s, 0, none⟩), .slice A n c, .slice B n2 c2, .int .i64 (most : Int)] w (fun e w' => ∃ A c M, e = .returned (.tuple #[.slice A M.length c, .int .i64 0]) ∧ clsOf M = app l us (clsOf L) ∧ mayD l (clsOf M) = 0 ∧ M.length ≤ most ∧ DocAt w' A M.length c M ∧ Below w.heap.size w w') :=
  applyDocI h hx hS hT hl hmo hz hz hu
theorem applyBad {s : Nat} {l : List Ky} {most : Int} {x : List OpS} (h : DocAt w A n c L) (hx : OpsAt w B n2 x) (hS : Sch w s l) (hT : Lib.Utf8Tabs 1 2 w) {r : Int} (hr : applyN l x (clsOf L) most = r) (hz : r ≠ 0) :
    Calls Tryz.prog 21 #[.pointer (some ⟨s, 0, none⟩), .slice A n c, .slice B n2 c2, .int .i64 most] w (fun e w' => e = .returned (.tuple #[.slice none 0 0, .int .i64 r]) ∧ Below w.heap.size w w') := by
  refine (applyD_any s l A B n c n2 c2 L x most w h.len hx.len h.cap (by have := h.b; omega) (by have := hx.b; omega) h.rd hx.rd hS (fun z hz => ⟨by have := (h.vr z hz).1; omega, (h.vr z hz).2⟩) h.caps hx.ok hT).mono ?_
  rintro e w' ⟨y, ⟨_, rfl⟩ | ⟨h0, _⟩⟩
  · exact ⟨by rw [hr], y⟩
  · exact absurd (hr.symm.trans h0) hz
theorem copyDoc (h : DocAt w A n c L) : Calls Tryz.prog 129 #[.slice A n c] w (fun e w' => ∃ A' c' M, e = .returned (.slice A' M.length c') ∧ clsOf M = clsOf L ∧ OwCs w' w.heap.size (.slice A' M.length c') M ∧ (∀ z ∈ M, PartC w' w.heap.size (.slice A' M.length c') z) ∧ Below w.heap.size w w') :=
  copyCells_any A n c L w h.len h.rd (by have := h.b; omega) (fun x hx => by have := (h.vr x hx).1; omega)
end
end Go.Proofs.YtnppoifgfehpfaaGreatDoor
/- Units and their ops, both ways: what a maker makes, told by units alone. Plain mathematics. -/
namespace Go.Proofs.YtnppoifgfehpfaaGreatDoor
set_option linter.unusedVariables false
set_option linter.unusedSimpArgs false

/-- the ops of units in their normal form -/
def mkU (us : List Un) : List Opd := enc (nf us)
theorem isOp_one (u : Un) : isOp (op1 u) := by
  cases u with
  | ins r s => exact .inl ⟨rfl, rfl, by simp [op1, opI], rfl⟩
  | del => exact .inr (.inl ⟨rfl, by show (1 : Int) ≤ 1; decide, rfl, rfl, rfl⟩)
  | ret p => exact .inr (.inr ⟨rfl, by show (1 : Int) ≤ 1; decide, rfl, rfl⟩)
theorem unitsO_one (u : Un) : unitsO (op1 u) = [u] := by cases u <;> rfl
theorem into_ok {u : Un} {b : Opd} (hb : isOp b) (h : canMerge (op1 u) b = true) : isOp (into u b) ∧ unitsO (into u b) = u :: unitsO b ∧ ∀ c, canMerge (into u b) c = canMerge b c := by
  obtain ⟨k, n, r, s, p⟩ := b
  rcases isOp_kind hb with hk | hk | hk
  · obtain ⟨e, hr⟩ := opI_of hb hk
    simp only at hk hr e
    subst hk
    rw [e] at h ⊢
    cases u with
    | del => simp [canMerge, op1, opI, opD] at h
    | ret q => simp [canMerge, op1, opI, opR] at h
    | ins r2 s2 =>
      have hs : s2 = s := by simp [canMerge, op1, opI] at h; exact of_decide_eq_true h
      subst hs
      exact ⟨.inl ⟨rfl, rfl, by simp [into, opI], rfl⟩, rfl, fun c => rfl⟩
  · obtain ⟨e, hn⟩ := opD_of hb hk
    simp only at hk hn e
    subst hk
    rw [e] at h ⊢
    cases u with
    | ins r2 s2 => simp [canMerge, op1, opI, opD] at h
    | ret q => simp [canMerge, op1, opD, opR] at h
    | del =>
      refine ⟨.inr (.inl ⟨rfl, by show 1 ≤ n + 1; omega, rfl, rfl, rfl⟩), ?_, fun c => rfl⟩
      show List.replicate (n + 1).toNat Un.del = .del :: List.replicate n.toNat .del
      rw [show (n + 1).toNat = n.toNat + 1 by omega, List.replicate_succ]
  · obtain ⟨e, hn⟩ := opR_of hb hk
    simp only at hk hn e
    subst hk
    rw [e] at h ⊢
    cases u with
    | ins r2 s2 => simp [canMerge, op1, opI, opR] at h
    | del => simp [canMerge, op1, opD, opR] at h
    | ret q =>
      have hq : q = p := by simp [canMerge, op1, opR] at h; exact of_decide_eq_true h
      subst hq
      refine ⟨.inr (.inr ⟨rfl, by show 1 ≤ n + 1; omega, rfl, rfl⟩), ?_, fun c => rfl⟩
      show List.replicate (n + 1).toNat (Un.ret q) = .ret q :: List.replicate n.toNat (.ret q)
      rw [show (n + 1).toNat = n.toNat + 1 by omega, List.replicate_succ]
theorem cons1_ok (u : Un) {x : List Opd} (h : tight x) : tight (cons1 u x) ∧ units (cons1 u x) = u :: units x := by
  cases x with
  | nil => exact ⟨⟨isOp_one u, trivial, trivial⟩, by show units [op1 u] = _; rw [units_one, unitsO_one]; rfl⟩
  | cons b t =>
    obtain ⟨h1, h2, h3⟩ := h
    have ec : cons1 u (b :: t) = if canMerge (op1 u) b = true then into u b :: t else op1 u :: b :: t := rfl
    rw [ec]
    by_cases hm : canMerge (op1 u) b = true
    · rw [if_pos hm]
      obtain ⟨g1, g2, g3⟩ := into_ok h1 hm
      refine ⟨⟨g1, ?_, h3⟩, by rw [units_cons, g2, units_cons]; rfl⟩
      cases t with
      | nil => trivial
      | cons c t => show canMerge (into u b) c = false; rw [g3]; exact h2
    · rw [if_neg hm]
      exact ⟨⟨isOp_one u, by simpa using hm, h1, h2, h3⟩, by rw [units_cons, unitsO_one]; rfl⟩
theorem enc_ok : ∀ us : List Un, tight (enc us) ∧ units (enc us) = us
  | [] => ⟨trivial, rfl⟩
  | u :: us => by
    obtain ⟨h1, h2⟩ := enc_ok us
    obtain ⟨g1, g2⟩ := cons1_ok u h1
    exact ⟨g1, by show units (cons1 u (enc us)) = _; rw [g2, h2]⟩
theorem mkU_ok (us : List Un) : tight (mkU us) ∧ units (mkU us) = nf us := enc_ok (nf us)
theorem told_mkU {m : Mk} {us : List Un} (h : Told m us) : mkOps m = mkU us := tight_ext h.ops.1 (mkU_ok us).1 (by rw [h.ops.2, (mkU_ok us).2])
theorem mkU_isOp {x : List OpS} {us : List Un} (hx : osOf x = mkU us) : ∀ o ∈ x, isOp o.o := fun o ho => tight_isOp (by rw [hx]; exact (mkU_ok us).1 : tight (osOf x)) o.o (by unfold osOf; exact List.mem_map_of_mem ho)
theorem mkU_units {x : List OpS} {us : List Un} (hx : osOf x = mkU us) : units (osOf x) = nf us := by rw [hx]; exact (mkU_ok us).2
theorem mkU_nf (us : List Un) : mkU (nf us) = mkU us := by unfold mkU; rw [nf_again]
/-- ops that are their normal form -/
theorem mkU_self {us : List Un} : mkU (units (mkU us)) = mkU us := by rw [(mkU_ok us).2, mkU_nf]
theorem made_applyU {l : List Ky} {x : List OpS} {us : List Un} {d : List Cl} {most : Nat} (hx : osOf x = mkU us) (hb : x.length ≤ 1048576) (hmo : most ≤ 4294967296) (hd : mayD l d = 0) (hf : FitU l us d.length most) :
    applyN l x d (most : Int) = 0 ∧ app l (units (osOf x)) d = app l us d := by
  have h2 := mkU_units hx
  refine ⟨zero_applyN hd (units_fits hb hmo (mkU_isOp hx) (by rw [h2]; exact fit_nf hf)), ?_⟩
  rw [h2, app_nf]
theorem mkU_empty {us : List Un} : mkU us = [] ↔ nf us = [] := by
  constructor
  · intro h
    have := (mkU_ok us).2
    rw [h] at this
    exact this.symm
  · intro h
    unfold mkU; rw [h]; rfl
theorem cn_len (us : List Un) : ∀ (I : List Un) (g : Nat), (cn us I g).length = us.length + I.length + g := by
  induction us with
  | nil => intro I g; simp [cn]
  | cons u us ih =>
    intro I g
    cases u with
    | ins r s => rw [cn, ih]; simp; omega
    | del => rw [cn, ih]; simp; omega
    | ret p => rw [cn, List.length_append, List.length_append, List.length_cons, ih]; simp; omega
theorem nf_len (us : List Un) : (nf us).length ≤ us.length := by
  have h1 : (canon us).length = us.length := by unfold canon; rw [cn_len]; rfl
  obtain ⟨k, hk⟩ := trim_pre (canon us)
  have := congrArg List.length hk
  rw [List.length_append] at this
  show (trim (canon us)).length ≤ _
  omega
theorem unitsO_len {o : Opd} (h : isOp o) : 1 ≤ (unitsO o).length ∧ o.r.length ≤ (unitsO o).length := by
  rcases isOp_kind h with hk | hk | hk
  · obtain ⟨e, hr⟩ := opI_of h hk
    have : (unitsO o).length = o.r.length := by unfold unitsO; rw [if_pos hk, List.length_map]
    have := List.length_pos_iff.2 hr
    omega
  · obtain ⟨e, hn⟩ := opD_of h hk
    have h1 : (unitsO o).length = o.n.toNat := by unfold unitsO; rw [if_neg (by rw [hk]; decide), if_neg (by rw [hk]; decide), List.length_replicate]
    have h2 : o.r = [] := by rw [e]; rfl
    rw [h1, h2]
    refine ⟨by omega, Nat.zero_le _⟩
  · obtain ⟨e, hn⟩ := opR_of h hk
    have h1 : (unitsO o).length = o.n.toNat := by unfold unitsO; rw [if_neg (by rw [hk]; decide), if_pos hk, List.length_replicate]
    have h2 : o.r = [] := by rw [e]; rfl
    rw [h1, h2]
    refine ⟨by omega, Nat.zero_le _⟩
end Go.Proofs.YtnppoifgfehpfaaGreatDoor
/- The rooms of ops' parts, and what a maker makes has them. -/
namespace Go.Proofs.YtnppoifgfehpfaaGreatDoor
open Go.RowKit
set_option linter.unusedVariables false
set_option linter.unusedSimpArgs false

/-- an op's parts have room for what they hold -/
def capO (o : OpS) : Prop := (o.o.r.length ≤ o.cr ∧ o.cr ≤ maxLen) ∧ (o.o.s.length ≤ o.cs ∧ o.cs ≤ maxLen) ∧ (o.o.p.length ≤ o.cp ∧ o.cp ≤ maxLen)
theorem cap_own {α : Type} {enc : α → List Value} {size : Nat} {e : TypeId} {w : World} {B : Nat} {A : Option Addr} {n c : Nat} {l : List α} (h : Ow enc size e w B (.slice A n c) l) : l.length ≤ c ∧ c ≤ maxLen := by
  obtain ⟨A', c', hv, h1, h2⟩ := h.form
  injection hv with _ _ hcc
  subst hcc
  exact ⟨h1, h2⟩
theorem cap_part {w : World} {B g : Nat} {x : OpS} (h : PartN w B g x) : capO x := ⟨cap_own h.1.1, cap_own h.2.1.1, cap_own h.2.2.1⟩
/-- ops at hand with their rooms -/
structure OpsC (w : World) (A : Option Addr) (n c : Nat) (x : List OpS) : Prop where
  at_ : OpsAt w A n x
  cap : n ≤ c
  cm : c ≤ maxLen
  caps : ∀ o ∈ x, capO o
theorem OpsC.ext {w w' : World} {A : Option Addr} {n c : Nat} {x : List OpS} (h : OpsC w A n c x) (y : Below w.heap.size w w') : OpsC w' A n c x := ⟨h.at_.ext y, h.cap, h.cm, h.caps⟩
theorem OpsC.nil (w : World) : OpsC w none 0 0 [] := ⟨⟨⟨Rd.nil, fun z hz => by cases hz⟩, rfl, (fun z hz => by cases hz), by omega⟩, Nat.le_refl _, by unfold maxLen; omega, fun z hz => by cases hz⟩
/-- no error, and ops of the call's own -/
def NewOpOk (o : List Opd) (w : World) (e : Ending) (w' : World) : Prop :=
  ∃ A c x, e = .returned (.tuple #[.slice A x.length c, .int .i64 0]) ∧ osOf x = o ∧ OpsC w' A x.length c x ∧ Below w.heap.size w w'
/-- ops of the call's own -/
def NewOpC (o : List Opd) (w : World) (e : Ending) (w' : World) : Prop :=
  ∃ A c x, e = .returned (.slice A x.length c) ∧ osOf x = o ∧ OpsC w' A x.length c x ∧ Below w.heap.size w w'
/-- what a maker that was told units has made -/
theorem NewOps.opC {m : Mk} {us : List Un} {K S : Nat} {w w' : World} {e : Ending} (h : NewOps (mkOps m) w e w') (ht : Told m us) (hu : ∀ u ∈ us, okUn u) (hB : MkB m K S) (hK : K ≤ 900000) (hS : S ≤ 100000000) : NewOpC (mkU us) w e w' := by
  obtain ⟨A, c, x, he, hx, ho, hp, y⟩ := h
  obtain ⟨h1, h2⟩ := ok_made hx ht hu hB (by omega) hS
  obtain ⟨c1, c2⟩ := cap_own ho
  exact ⟨A, c, x, he, hx.trans (told_mkU ht), ⟨⟨rd_made ho hp, rfl, h1, by omega⟩, c1, c2, fun z hz => by obtain ⟨g, hg⟩ := hp z hz; exact cap_part hg⟩, y⟩
end Go.Proofs.YtnppoifgfehpfaaGreatDoor
/- The inverse of units on cells: it leads back, fits, and a delta and its normal form have one. Plain mathematics. -/
namespace Go.Proofs.YtnppoifgfehpfaaGreatDoor
set_option linter.unusedVariables false
set_option linter.unusedSimpArgs false

def invC (l : List Ky) (c : Cl) (p : List Ch) : List Ch := invertP c.s (partP l (c.r == 10) p)
/-- what takes units back, on cells -/
def invU (l : List Ky) : List Un → List Cl → List Un
  | [], _ => []
  | .ins _ _ :: us, d => .del :: invU l us d
  | .del :: us, d => (d.take 1).map (fun c => Un.ins c.r c.s) ++ invU l us (d.drop 1)
  | .ret p :: us, d => (d.take 1).map (fun c => Un.ret (invC l c p)) ++ invU l us (d.drop 1)
theorem invC_nil (l : List Ky) (c : Cl) : invC l c [] = [] := rfl
theorem inv_part {l : List Ky} {c : Cl} {p : List Ch} (hp : riseC p = true) : partP l (c.r == 10) (invC l c p) = invC l c p := by
  unfold partP
  refine List.filter_eq_self.2 fun x hx => ?_
  unfold invC at hx
  have hq : riseC (partP l (c.r == 10) p) = true := riseC_srt.2 (part_srt (riseC_srt.1 hp))
  have key : ∃ y ∈ partP l (c.r == 10) p, y.key = x.key := by
    unfold invertP at hx
    rw [List.mem_flatMap] at hx
    obtain ⟨y, hy, hx⟩ := hx
    exact ⟨y, hy, (inv1_key hx).symm⟩
  obtain ⟨y, hy, e⟩ := key
  rw [← e]
  exact (List.mem_filter.1 hy).2
theorem act_back {l : List Ky} {c : Cl} {p : List Ch} (hp : mayP l p = 0) (hs : mayS l c.s = 0) : actC l (actC l c p) (invC l c p) = c := by
  have hr := (mayP_zero hp).2.1
  have hq : riseC (partP l (c.r == 10) p) = true := riseC_srt.2 (part_srt (riseC_srt.1 hr))
  have e1 : (actC l c p).r = c.r := rfl
  have e2 : (actC l c p).s = applyP (partP l (c.r == 10) p) c.s := rfl
  show (⟨c.r, applyP (partP l (c.r == 10) (invC l c p)) (applyP (partP l (c.r == 10) p) c.s)⟩ : Cl) = c
  rw [inv_part hr]
  unfold invC
  rw [law_back (mayS_zero hs).2.1 hq]
/-- it leads back -/
theorem inv_back {l : List Ky} : ∀ (us : List Un) (d : List Cl), takesU us ≤ d.length → (∀ u ∈ us, mU l u) → (∀ c ∈ d, mayS l c.s = 0) → app l (invU l us d) (app l us d) = d
  | [], d, _, _, _ => rfl
  | .ins r s :: us, d, h, hu, hd => by
    show app l (invU l us d) ((app l (.ins r s :: us) d).drop 1) = d
    show app l (invU l us d) (app l us d) = d
    exact inv_back us d h (fun u hu' => hu u (List.mem_cons_of_mem _ hu')) hd
  | .del :: us, [], h, hu, hd => by rw [takesU_d] at h; simp at h
  | .ret p :: us, [], h, hu, hd => by rw [takesU_r] at h; simp at h
  | .del :: us, c :: d, h, hu, hd => by
    rw [takesU_d] at h
    show c :: app l (invU l us d) (app l us d) = c :: d
    rw [inv_back us d (by simp at h; omega) (fun u hu' => hu u (List.mem_cons_of_mem _ hu')) (fun x hx => hd x (List.mem_cons_of_mem _ hx))]
  | .ret p :: us, c :: d, h, hu, hd => by
    rw [takesU_r] at h
    show actC l (actC l c p) (invC l c p) :: app l (invU l us d) (app l us d) = c :: d
    rw [inv_back us d (by simp at h; omega) (fun u hu' => hu u (List.mem_cons_of_mem _ hu')) (fun x hx => hd x (List.mem_cons_of_mem _ hx)), act_back (hu (.ret p) (by simp)) (hd c (by simp))]
theorem inv_takes (l : List Ky) : ∀ (us : List Un) (d : List Cl), takesU us ≤ d.length → takesU (invU l us d) = makesU us ∧ makesU (invU l us d) = takesU us
  | [], d, _ => ⟨rfl, rfl⟩
  | .ins r s :: us, d, h => by
    obtain ⟨h1, h2⟩ := inv_takes l us d h
    exact ⟨by show takesU (.del :: invU l us d) = _; rw [takesU_d, makesU_i, h1], by show makesU (.del :: invU l us d) = _; rw [makesU_d, takesU_i, h2]⟩
  | .del :: us, [], h => by rw [takesU_d] at h; simp at h
  | .ret p :: us, [], h => by rw [takesU_r] at h; simp at h
  | .del :: us, c :: d, h => by
    rw [takesU_d] at h
    obtain ⟨h1, h2⟩ := inv_takes l us d (by simp at h; omega)
    exact ⟨by show takesU (.ins c.r c.s :: invU l us d) = _; rw [takesU_i, makesU_d, h1], by show makesU (.ins c.r c.s :: invU l us d) = _; rw [makesU_i, takesU_d, h2]⟩
  | .ret p :: us, c :: d, h => by
    rw [takesU_r] at h
    obtain ⟨h1, h2⟩ := inv_takes l us d (by simp at h; omega)
    exact ⟨by show takesU (.ret _ :: invU l us d) = _; rw [takesU_r, makesU_r, h1], by show makesU (.ret _ :: invU l us d) = _; rw [makesU_r, takesU_r, h2]⟩
theorem inv_len (l : List Ky) : ∀ (us : List Un) (d : List Cl), (invU l us d).length ≤ us.length
  | [], d => Nat.le_refl _
  | .ins r s :: us, d => by have := inv_len l us d; simp only [invU, List.length_cons]; omega
  | .del :: us, d => by have := inv_len l us (d.drop 1); simp only [invU, List.length_append, List.length_map, List.length_take, List.length_cons]; omega
  | .ret p :: us, d => by have := inv_len l us (d.drop 1); simp only [invU, List.length_append, List.length_map, List.length_take, List.length_cons]; omega
/-- it may be -/
theorem inv_vU {l : List Ky} (hl : l.length ≤ 64) : ∀ (us : List Un) (d : List Cl), (∀ u ∈ us, mU l u) → (∀ c ∈ d, okCl l c) → ∀ u ∈ invU l us d, vU l u
  | [], d, _, _ => fun u hu => by cases hu
  | .ins r s :: us, d, h, hd => fun u hu => by
    rcases List.mem_cons.1 hu with rfl | hu
    · trivial
    · exact inv_vU hl us d (fun v hv => h v (List.mem_cons_of_mem _ hv)) hd u hu
  | .del :: us, d, h, hd => fun u hu => by
    rcases List.mem_append.1 hu with hu | hu
    · obtain ⟨c, hc, rfl⟩ := List.mem_map.1 hu
      exact hd c (List.mem_of_mem_take hc)
    · exact inv_vU hl us _ (fun v hv => h v (List.mem_cons_of_mem _ hv)) (fun c hc => hd c (List.mem_of_mem_drop hc)) u hu
  | .ret p :: us, d, h, hd => fun u hu => by
    rcases List.mem_append.1 hu with hu | hu
    · obtain ⟨c, hc, rfl⟩ := List.mem_map.1 hu
      have hp : mayP l p = 0 := h (.ret p) (by simp)
      exact stay_inv hl (hd c (List.mem_of_mem_take hc)).2.1 (stay_filter _ hp)
    · exact inv_vU hl us _ (fun v hv => h v (List.mem_cons_of_mem _ hv)) (fun c hc => hd c (List.mem_of_mem_drop hc)) u hu
theorem inv_okUn {l : List Ky} : ∀ (us : List Un) (d : List Cl), (∀ u ∈ us, mU l u) → (∀ c ∈ d, mayS l c.s = 0 ∧ okVr c.s) → ∀ u ∈ invU l us d, okUn u
  | [], d, _, _ => fun u hu => by cases hu
  | .ins r s :: us, d, h, hd => fun u hu => by
    rcases List.mem_cons.1 hu with rfl | hu
    · trivial
    · exact inv_okUn us d (fun v hv => h v (List.mem_cons_of_mem _ hv)) hd u hu
  | .del :: us, d, h, hd => fun u hu => by
    rcases List.mem_append.1 hu with hu | hu
    · obtain ⟨c, hc, rfl⟩ := List.mem_map.1 hu
      exact (hd c (List.mem_of_mem_take hc)).2
    · exact inv_okUn us _ (fun v hv => h v (List.mem_cons_of_mem _ hv)) (fun c hc => hd c (List.mem_of_mem_drop hc)) u hu
  | .ret p :: us, d, h, hd => fun u hu => by
    rcases List.mem_append.1 hu with hu | hu
    · obtain ⟨c, hc, rfl⟩ := List.mem_map.1 hu
      have hp : mayP l p = 0 := h (.ret p) (by simp)
      obtain ⟨h1, h2⟩ := hd c (List.mem_of_mem_take hc)
      exact vs_inv (riseC_srt.2 (part_srt (riseC_srt.1 (mayP_zero hp).2.1))) (mayS_va h1 h2)
    · exact inv_okUn us _ (fun v hv => h v (List.mem_cons_of_mem _ hv)) (fun c hc => hd c (List.mem_of_mem_drop hc)) u hu
/-- the last cell stays the last one -/
theorem app_pos (l : List Ky) (us : List Un) (d : List Cl) (n a : Nat) (hd : 1 ≤ d.length) (h1 : takesU us ≤ d.length) (h2 : finU n a us = true) (h3 : n = a + d.length) : 1 ≤ (app l us d).length := by
  rcases List.eq_nil_or_concat d with rfl | ⟨t, c, rfl⟩
  · simp at hd
  · rw [List.concat_eq_append] at *
    obtain ⟨t', c', e, _⟩ := app_last l us t c n a (by simpa using h1) h2 (by simpa using h3)
    rw [e]; simp
theorem inv_fin (l : List Ky) : ∀ (us : List Un) (d : List Cl) (n a n' a' : Nat), takesU us ≤ d.length → finU n a us = true → n = a + d.length → n' = a' + (app l us d).length → finU n' a' (invU l us d) = true
  | [], d, n, a, n', a', _, _, _, _ => rfl
  | .ins r s :: us, d, n, a, n', a', h1, h2, h3, h4 => by
    simp only [finU, Bool.and_eq_true, decide_eq_true_eq] at h2
    have e : (app l (.ins r s :: us) d).length = (app l us d).length + 1 := rfl
    have hp := app_pos l us d n a (by omega) h1 h2.2 h3
    show (decide (a' + 1 ≠ n') && finU n' (a' + 1) (invU l us d)) = true
    rw [inv_fin l us d n a n' (a' + 1) h1 h2.2 h3 (by omega), Bool.and_true]
    exact decide_eq_true (by omega)
  | .del :: us, [], n, a, n', a', h1, h2, h3, h4 => by rw [takesU_d] at h1; simp at h1
  | .ret p :: us, [], n, a, n', a', h1, h2, h3, h4 => by rw [takesU_r] at h1; simp at h1
  | .del :: us, c :: d, n, a, n', a', h1, h2, h3, h4 => by
    rw [takesU_d] at h1
    simp only [finU, Bool.and_eq_true, decide_eq_true_eq] at h2
    simp only [List.length_cons] at h1 h3
    have e : app l (.del :: us) (c :: d) = app l us d := rfl
    rw [e] at h4
    have hp := app_pos l us d n (a + 1) (by omega) (by omega) h2.2 (by omega)
    show (decide (a' ≠ n') && finU n' a' (invU l us d)) = true
    rw [inv_fin l us d n (a + 1) n' a' (by omega) h2.2 (by omega) h4, Bool.and_true]
    exact decide_eq_true (by omega)
  | .ret p :: us, c :: d, n, a, n', a', h1, h2, h3, h4 => by
    rw [takesU_r] at h1
    simp only [finU] at h2
    simp only [List.length_cons] at h1 h3
    have e : (app l (.ret p :: us) (c :: d)).length = (app l us d).length + 1 := rfl
    show finU n' (a' + 1) (invU l us d) = true
    exact inv_fin l us d n (a + 1) n' (a' + 1) (by omega) h2 (by omega) (by omega)
/-- what takes a delta back fits what it makes -/
theorem inv_fit0 {l : List Ky} (hl : l.length ≤ 64) {us : List Un} {d : List Cl} {most N : Nat} (hf : FitU l us d.length most) (hd : mayD l d = 0) (hm : most ≤ 536870912) (h1 : d.length ≤ N) (h2 : (app l us d).length ≤ N) (hN : N ≤ 536870912) : FitU l (invU l us d) (app l us d).length N := by
  obtain ⟨_, hc, t, c, ed, _⟩ := mayD_iff.1 hd
  have hpos : 1 ≤ d.length := by rw [ed]; simp
  have hlen := app_len l us d hf.t
  obtain ⟨t1, t2⟩ := inv_takes l us d hf.t
  have hfm := hf.m
  have ha := app_pos l us d d.length 0 hpos hf.t hf.f (by omega)
  refine ⟨inv_vU hl us d (fun u hu => vU_mU (hf.v u hu)) hc, ?_, ha, h2, inv_fin l us d d.length 0 _ 0 hf.t hf.f (by omega) (by omega), ?_, ?_, ?_⟩
  · have := hf.t; omega
  · have := hf.t; omega
  · rw [t1]; exact hf.mb
  · rw [t2]; exact hf.tb
theorem invU_append (l : List Ky) : ∀ (a b : List Un) (d : List Cl), invU l (a ++ b) d = invU l a (d.take (takesU a)) ++ invU l b (d.drop (takesU a))
  | [], b, d => by simp [invU, takesU]
  | .ins r s :: a, b, d => by show _ :: invU l (a ++ b) d = _; rw [invU_append l a b d]; rfl
  | .del :: a, b, d => by
    show (d.take 1).map _ ++ invU l (a ++ b) (d.drop 1) = _
    rw [invU_append l a b (d.drop 1)]
    simp only [invU, takesU]
    rw [List.drop_drop, Nat.add_comm 1, List.drop_take, Nat.add_sub_cancel, List.take_take, Nat.min_eq_left (by omega), List.append_assoc]
  | .ret p :: a, b, d => by
    show (d.take 1).map _ ++ invU l (a ++ b) (d.drop 1) = _
    rw [invU_append l a b (d.drop 1)]
    simp only [invU, takesU]
    rw [List.drop_drop, Nat.add_comm 1, List.drop_take, Nat.add_sub_cancel, List.take_take, Nat.min_eq_left (by omega), List.append_assoc]
theorem invU_inss (l : List Ky) : ∀ (I : List Un) (d : List Cl), (∀ u ∈ I, ∃ r s, u = Un.ins r s) → invU l I d = List.replicate I.length .del
  | [], d, _ => rfl
  | u :: I, d, h => by
    obtain ⟨r, s, rfl⟩ := h u (by simp)
    show .del :: invU l I d = _
    rw [invU_inss l I d (fun v hv => h v (List.mem_cons_of_mem _ hv)), List.length_cons, List.replicate_succ]
theorem invU_dels (l : List Ky) : ∀ (g : Nat) (d : List Cl), invU l (List.replicate g .del) d = (d.take g).map (fun c => Un.ins c.r c.s)
  | 0, d => by simp [invU]
  | g + 1, [] => by
    have := invU_dels l g []
    rw [List.replicate_succ]
    show [] ++ invU l (List.replicate g .del) [] = _
    rw [this]; simp
  | g + 1, c :: d => by
    rw [List.replicate_succ]
    show Un.ins c.r c.s :: invU l (List.replicate g .del) d = _
    rw [invU_dels l g d]; rfl
theorem invU_rets (l : List Ky) : ∀ (g : Nat) (d : List Cl), g ≤ d.length → invU l (List.replicate g (.ret [])) d = List.replicate g (.ret [])
  | 0, d, _ => by simp [invU]
  | g + 1, [], h => by simp at h
  | g + 1, c :: d, h => by
    rw [List.replicate_succ]
    show Un.ret (invC l c []) :: invU l (List.replicate g (.ret [])) d = _
    rw [invU_rets l g d (by simp at h; omega), invC_nil]
theorem takesU_gap {I : List Un} (hI : ∀ u ∈ I, ∃ r s, u = Un.ins r s) : takesU I = 0 := by
  induction I with
  | nil => rfl
  | cons u I ih =>
    obtain ⟨r, s, rfl⟩ := hI u (by simp)
    rw [takesU_i]; exact ih (fun v hv => hI v (List.mem_cons_of_mem _ hv))
theorem cn_insC (J : List Cl) (us : List Un) (I : List Un) (g : Nat) : cn (J.map (fun c => Un.ins c.r c.s) ++ us) I g = cn us (I ++ J.map (fun c => Un.ins c.r c.s)) g := by
  induction J generalizing I with
  | nil => simp
  | cons c J ih =>
    show cn (J.map (fun c => Un.ins c.r c.s) ++ us) (I ++ [Un.ins c.r c.s]) g = _
    rw [ih]; simp
theorem inv_cn (l : List Ky) (us : List Un) : ∀ (I : List Un) (g : Nat) (d : List Cl), (∀ u ∈ I, ∃ r s, u = Un.ins r s) → g + takesU us ≤ d.length →
    canon (invU l (cn us I g) d) = cn (invU l us (d.drop g)) ((d.take g).map (fun c => Un.ins c.r c.s)) I.length := by
  have hgap : ∀ (I : List Un) (g : Nat) (rest : List Un) (d : List Cl), (∀ u ∈ I, ∃ r s, u = Un.ins r s) → invU l (I ++ List.replicate g .del ++ rest) d = List.replicate I.length .del ++ ((d.take g).map (fun c => Un.ins c.r c.s) ++ invU l rest (d.drop g)) := by
    intro I g rest d hI
    have ht : takesU (I ++ List.replicate g .del) = g := by rw [takesU_append, takesU_gap hI, takesU_del]; omega
    rw [invU_append, ht, invU_append, takesU_gap hI, invU_inss l I _ hI, invU_dels]
    simp [List.take_take]
  induction us with
  | nil =>
    intro I g d hI h
    have := hgap I g [] d hI
    rw [List.append_nil] at this
    rw [cn, this, canon, cn_del, cn_insC]
    simp [invU, cn]
  | cons u us ih =>
    intro I g d hI h
    cases u with
    | ins r s =>
      have h2 : ∀ u ∈ I ++ [Un.ins r s], ∃ r s, u = .ins r s := fun v hv => by
        rcases List.mem_append.1 hv with hv | hv
        · exact hI v hv
        · simp at hv; exact ⟨r, s, hv⟩
      rw [cn, ih _ _ _ h2 h]
      show _ = cn (.del :: invU l us (d.drop g)) _ _
      rw [cn]; simp
    | del =>
      rw [takesU_d] at h
      obtain ⟨c, t, hc⟩ : ∃ c t, d.drop g = c :: t := by
        cases hd : d.drop g with
        | nil => have := congrArg List.length hd; rw [List.length_drop] at this; simp at this; omega
        | cons c t => exact ⟨c, t, rfl⟩
      have h1 : d.drop (g + 1) = t := by rw [← List.drop_drop, hc]; rfl
      have h2 : d.take (g + 1) = d.take g ++ [c] := by rw [List.take_add, hc]; rfl
      rw [cn, ih _ _ _ hI (by omega), h1, h2, hc]
      show _ = cn (.ins c.r c.s :: invU l us t) _ _
      rw [cn]; simp
    | ret p =>
      rw [takesU_r] at h
      obtain ⟨c, t, hc⟩ : ∃ c t, d.drop g = c :: t := by
        cases hd : d.drop g with
        | nil => have := congrArg List.length hd; rw [List.length_drop] at this; simp at this; omega
        | cons c t => exact ⟨c, t, rfl⟩
      have ht : takesU us ≤ t.length := by
        have := congrArg List.length hc; rw [List.length_drop, List.length_cons] at this; omega
      rw [cn, hgap I g _ d hI, canon, cn_del, cn_insC, hc]
      show cn (.ret (invC l c p) :: invU l (cn us [] 0) t) _ _ = cn (.ret (invC l c p) :: invU l us t) _ _
      rw [cn, cn]
      have := ih [] 0 t (by simp) (by omega)
      rw [canon] at this
      rw [this]
      simp
/-- a delta and its normal form have one inverse -/
theorem inv_nf (l : List Ky) {us : List Un} {d : List Cl} (h : takesU us ≤ d.length) : nf (invU l (nf us) d) = nf (invU l us d) := by
  have h1 := inv_cn l us [] 0 d (by simp) (by omega)
  have h2 : canon (invU l (canon us) d) = canon (invU l us d) := by show canon (invU l (cn us [] 0) d) = cn (invU l us d) [] 0; simpa using h1
  unfold nf
  rw [← h2]
  have ht : takesU (canon us) ≤ d.length := by rw [canon_takes]; exact h
  generalize canon us = v at *
  obtain ⟨k, hk⟩ := trim_pre v
  have e : invU l v d = invU l (trim v) (d.take (takesU (trim v))) ++ List.replicate k (.ret []) := by
    have ht' : takesU (trim v) + k ≤ d.length := by
      have := congrArg takesU hk
      rw [takesU_append] at this
      have hr : takesU (List.replicate k (Un.ret [])) = k := by
        clear this hk
        induction k with
        | zero => rfl
        | succ k ih => rw [List.replicate_succ, takesU_r, ih]
      omega
    conv => lhs; rw [hk]
    rw [invU_append, invU_rets l k _ (by rw [List.length_drop]; omega)]
  have e2 : invU l (trim v) d = invU l (trim v) (d.take (takesU (trim v))) := by
    have := invU_append l (trim v) [] d
    rw [List.append_nil] at this
    rw [this]; simp [invU]
  rw [e2, e]
  have hcr : ∀ (k : Nat) (x : List Un), trim (canon (x ++ List.replicate k (.ret []))) = trim (canon x) := by
    intro k
    induction k with
    | zero => intro x; simp
    | succ k ih =>
      intro x
      rw [List.replicate_succ', ← List.append_assoc, canon_snoc_ret, trim_snoc, ih]
  rw [hcr]
end Go.Proofs.YtnppoifgfehpfaaGreatDoor
/- A maker stays while a small box beside it is written. -/
namespace Go.Proofs.YtnppoifgfehpfaaGreatDoor
open Go.RowKit
set_option linter.unusedVariables false
set_option linter.unusedSimpArgs false

/-- a row of elements that do not fit into a block does not lie in it -/
theorem offF_one {α : Type} {enc : α → List Value} {size B b : Nat} {w : World} {A : Option Addr} {l : List α} {cs : Array Value} {t : TypeId} (h : Rd enc size w B A l) (hb : w.heap[b]? = some (.cells cs t (0, 0)))
    (hbad : ∀ (a : α) (o : Nat), (∀ (j : Nat) (u : Value), (enc a)[j]? = some u → cs[o + j]? = some u) → False) : OffF (fun k => k = b) A l.length := fun ad e hl hk => by
  obtain ⟨ad', e', _, hc⟩ := h hl
  rw [e] at e'; injection e' with e'; subst e'
  refine hbad l[0] ad.off (fun j u hu => ?_)
  have h1 := hc 0 hl j u hu
  rw [Nat.zero_mul, add_zero'] at h1
  unfold World.cell? at h1
  rw [add_block, hk, hb] at h1
  simp only at h1
  have e2 : (ad.add j).off = ad.off + j := by unfold Addr.add; split <;> simp_all
  rw [e2] at h1
  split at h1
  · cases h1
  · exact h1
/-- cells that are no rune, fewer than three -/
structure NoPart (cs : Array Value) : Prop where
  i : ∀ (r : Int) (o : Nat), cs[o]? ≠ some (.int .i32 r)
  s : cs.size < 3
theorem NoPart.rdr (A : Option Addr) (n c : Nat) (d : Int) : NoPart #[.slice A n c, .int .i64 d] := ⟨fun r o h => by
  match o with
  | 0 => simp at h
  | 1 => simp at h
  | o + 2 => simp at h, by simp⟩
theorem NoPart.one (A : Option Addr) (n c : Nat) : NoPart #[.slice A n c] := ⟨fun r o h => by
  match o with
  | 0 => simp at h
  | o + 1 => simp at h, by simp⟩
theorem NoPart.i32 {cs : Array Value} (h : NoPart cs) (a : Int) (o : Nat) (hh : ∀ (j : Nat) (u : Value), (encI32 a)[j]? = some u → cs[o + j]? = some u) : False := h.i a o (hh 0 _ rfl)
theorem NoPart.big {cs : Array Value} (h : NoPart cs) {l : List Value} (hl : 3 ≤ l.length) (o : Nat) (hh : ∀ (j : Nat) (u : Value), l[j]? = some u → cs[o + j]? = some u) : False := by
  have h1 := hh 2 l[2] (List.getElem?_eq_getElem (by omega))
  have h2 : o + 2 < cs.size := by
    rcases Nat.lt_or_ge (o + 2) cs.size with h3 | h3
    · exact h3
    · rw [Array.getElem?_eq_none h3] at h1; cases h1
  have := h.s
  omega
theorem Mkr.beside {w w' : World} {F : Nat → Prop} {b br : Nat} {m : Mk} {cs : Array Value} {t : TypeId} (h : Mkr w F b m) (hb : w.heap[br]? = some (.cells cs t (0, 0))) (hn : NoPart cs) (hF : ¬ F br)
    (g : Grow w (fun k => k = br) w' (fun k => k = br)) : Mkr w' F b m := by
  obtain ⟨vd, vi, D, I, h1, h2, h3, h4, h5, h6, h7, h8, h9, h10, h11, h12⟩ := h
  have oI : ∀ {A : Option Addr} {l : List Int}, RdI32 w w.heap.size A l → OffF (fun k => k = br) A l.length := fun h => offF_one h hb (fun a o hh => hn.i32 a o hh)
  have oA : ∀ {A : Option Addr} {l : List At}, RdAt w w.heap.size A l → OffF (fun k => k = br) A l.length := fun h => offF_one h hb (fun a o hh => hn.big (l := At.enc a) (by simp [At.enc]) o hh)
  have oC : ∀ {A : Option Addr} {l : List Ch}, RdCh w w.heap.size A l → OffF (fun k => k = br) A l.length := fun h => offF_one h hb (fun a o hh => hn.big (l := Ch.enc a) (by simp [Ch.enc]) o hh)
  have hne : ∀ k, F k → k ≠ br := fun k hk e => hF (e ▸ hk)
  have part : ∀ x, PartF w F x → PartF w' F x := fun x hx => ⟨⟨hx.1.1.grow g (oI hx.1.1), hx.1.2⟩, ⟨hx.2.1.1.grow g (oA hx.2.1.1), hx.2.1.2⟩, ⟨hx.2.2.1.grow g (oC hx.2.2.1), hx.2.2.2⟩⟩
  refine ⟨vd, vi, D, I, (g.block b (h6 b h7) (hne b h7)).trans h1, h2.grow g (fun k hk => hne k (h8 k hk).1), h3.grow g (fun k hk => hne k (h9 k hk).1), h4, h5, fun k hk => Nat.lt_of_lt_of_le (h6 k hk) g.size, h7, h8, h9, fun x hx => part x (h10 x hx), fun x hx => part x (h11 x hx), fun x hx => ?_⟩
  obtain ⟨e1, e2, e3, e4⟩ := h12 x hx
  exact ⟨e1.grow g (fun k hk => hne k (e2 k hk).1), e2, ⟨e3.1.grow g (oA e3.1), e3.2⟩, ⟨e4.1.grow g (oC e4.1), e4.2⟩⟩
end Go.Proofs.YtnppoifgfehpfaaGreatDoor
/- Two deltas as one, unit by unit: it does what both do one behind the other, and fits. Plain mathematics. -/
namespace Go.Proofs.YtnppoifgfehpfaaGreatDoor
set_option linter.unusedVariables false
set_option linter.unusedSimpArgs false

def isDel : Un → Bool
  | .del => true
  | _ => false
/-- both deltas as one -/
def compU (l : List Ky) : List Un → List Un → List Un
  | us, [] => us
  | us, .ins r s :: vs => .ins r s :: compU l us vs
  | us, .del :: vs => us.takeWhile isDel ++ (match us.dropWhile isDel with
    | [] => .del :: compU l [] vs
    | .ins _ _ :: us' => compU l us' vs
    | .del :: us' => compU l us' vs
    | .ret _ :: us' => .del :: compU l us' vs)
  | us, .ret q :: vs => us.takeWhile isDel ++ (match us.dropWhile isDel with
    | [] => .ret (composeP [] q) :: compU l [] vs
    | .ins r s :: us' => .ins r (actC l ⟨r, s⟩ q).s :: compU l us' vs
    | .del :: us' => compU l us' vs
    | .ret p :: us' => .ret (composeP p q) :: compU l us' vs)
section
variable (l : List Ky) (us vs : List Un) (r : Int) (s : List At) (p q : List Ch)
theorem compU_nil : compU l us [] = us := by unfold compU; rfl
theorem compU_ins : compU l us (.ins r s :: vs) = .ins r s :: compU l us vs := by rw [compU]
theorem compU_dd : compU l (.del :: us) (.del :: vs) = .del :: compU l us (.del :: vs) := by rw [compU, compU]; rfl
theorem compU_dr : compU l (.del :: us) (.ret q :: vs) = .del :: compU l us (.ret q :: vs) := by rw [compU, compU]; rfl
theorem compU_nd : compU l [] (.del :: vs) = .del :: compU l [] vs := by rw [compU]; rfl
theorem compU_nr : compU l [] (.ret q :: vs) = .ret (composeP [] q) :: compU l [] vs := by rw [compU]; rfl
theorem compU_id : compU l (.ins r s :: us) (.del :: vs) = compU l us vs := by rw [compU]; rfl
theorem compU_ir : compU l (.ins r s :: us) (.ret q :: vs) = .ins r (actC l ⟨r, s⟩ q).s :: compU l us vs := by rw [compU]; rfl
theorem compU_rd : compU l (.ret p :: us) (.del :: vs) = .del :: compU l us vs := by rw [compU]; rfl
theorem compU_rr : compU l (.ret p :: us) (.ret q :: vs) = .ret (composeP p q) :: compU l us vs := by rw [compU]; rfl
end
theorem comp_ind {P : List Un → List Un → Prop} (nil : ∀ us, P us []) (ins : ∀ us r s vs, P us vs → P us (.ins r s :: vs))
    (dd : ∀ us vs, P us (.del :: vs) → P (.del :: us) (.del :: vs)) (dr : ∀ us q vs, P us (.ret q :: vs) → P (.del :: us) (.ret q :: vs))
    (nd : ∀ vs, P [] vs → P [] (.del :: vs)) (nr : ∀ q vs, P [] vs → P [] (.ret q :: vs))
    (id : ∀ r s us vs, P us vs → P (.ins r s :: us) (.del :: vs)) (ir : ∀ r s us q vs, P us vs → P (.ins r s :: us) (.ret q :: vs))
    (rd : ∀ p us vs, P us vs → P (.ret p :: us) (.del :: vs)) (rr : ∀ p us q vs, P us vs → P (.ret p :: us) (.ret q :: vs)) : ∀ vs us, P us vs := by
  intro vs
  induction vs with
  | nil => exact nil
  | cons v vs ih =>
    intro us
    cases v with
    | ins r s => exact ins us r s vs (ih us)
    | del =>
      induction us with
      | nil => exact nd vs (ih [])
      | cons u us ihu =>
        cases u with
        | ins r s => exact id r s us vs (ih us)
        | del => exact dd us vs ihu
        | ret p => exact rd p us vs (ih us)
    | ret q =>
      induction us with
      | nil => exact nr q vs (ih [])
      | cons u us ihu =>
        cases u with
        | ins r s => exact ir r s us q vs (ih us)
        | del => exact dr us q vs ihu
        | ret p => exact rr p us q vs (ih us)
theorem part_comp {l : List Ky} {b : Bool} {p q : List Ch} (hp : riseC p = true) (hq : riseC q = true) : partP l b (composeP p q) = composeP (partP l b p) (partP l b q) := by
  rw [riseC_srt] at hp hq
  obtain ⟨a1, a2, _⟩ := compose_all hq hp
  obtain ⟨b1, b2, _⟩ := compose_all (part_srt (l := l) (b := b) hq) (part_srt (l := l) (b := b) hp)
  refine lk_ext Ch.key (part_srt a1) b1 fun k => ?_
  rw [lk_part a1, a2, b2, lk_part hq, lk_part hp]
  by_cases h : keepK l b k = true
  · simp [h]
  · simp [h]
theorem act_comp {l : List Ky} {c : Cl} {p q : List Ch} (hp : mayP l p = 0) (hq : mayP l q = 0) (hs : riseA c.s = true) : actC l (actC l c p) q = actC l c (composeP p q) := by
  have p1 := (mayP_zero hp).2.1
  have q1 := (mayP_zero hq).2.1
  have p2 : riseC (partP l (c.r == 10) p) = true := riseC_srt.2 (part_srt (riseC_srt.1 p1))
  have q2 : riseC (partP l (c.r == 10) q) = true := riseC_srt.2 (part_srt (riseC_srt.1 q1))
  show (⟨c.r, applyP (partP l (c.r == 10) q) (applyP (partP l (c.r == 10) p) c.s)⟩ : Cl) = ⟨c.r, applyP (partP l (c.r == 10) (composeP p q)) c.s⟩
  rw [part_comp p1 q1, law_compose hs p2 q2]
/-- how much it takes and makes -/
theorem comp_size (l : List Ky) : ∀ vs us, takesU (compU l us vs) = takesU us + (takesU vs - makesU us) ∧ makesU (compU l us vs) = makesU vs + (makesU us - takesU vs) := by
  refine comp_ind ?_ ?_ ?_ ?_ ?_ ?_ ?_ ?_ ?_ ?_
  · intro us; rw [compU_nil]; simp [takesU, makesU]
  · intro us r s vs ⟨h1, h2⟩; rw [compU_ins, takesU_i, takesU_i, makesU_i, makesU_i]; omega
  · intro us vs ⟨h1, h2⟩
    rw [takesU_d] at h1 h2; rw [makesU_d] at h2
    rw [compU_dd, takesU_d, takesU_d, takesU_d, makesU_d, makesU_d, makesU_d]; omega
  · intro us q vs ⟨h1, h2⟩
    rw [takesU_r] at h1 h2; rw [makesU_r] at h2
    rw [compU_dr, takesU_d, takesU_d, takesU_r, makesU_d, makesU_d, makesU_r]; omega
  · intro vs ⟨h1, h2⟩
    have e1 : takesU [] = 0 := rfl
    have e2 : makesU [] = 0 := rfl
    rw [compU_nd, takesU_d, takesU_d, makesU_d, makesU_d]; omega
  · intro q vs ⟨h1, h2⟩
    have e1 : takesU [] = 0 := rfl
    have e2 : makesU [] = 0 := rfl
    rw [compU_nr, takesU_r, takesU_r, makesU_r, makesU_r]; omega
  · intro r s us vs ⟨h1, h2⟩; rw [compU_id, takesU_i, takesU_d, makesU_i, makesU_d]; omega
  · intro r s us q vs ⟨h1, h2⟩; rw [compU_ir, takesU_i, takesU_i, takesU_r, makesU_i, makesU_i, makesU_r]; omega
  · intro p us vs ⟨h1, h2⟩; rw [compU_rd, takesU_d, takesU_d, takesU_r, makesU_d, makesU_d, makesU_r]; omega
  · intro p us q vs ⟨h1, h2⟩; rw [compU_rr, takesU_r, takesU_r, takesU_r, makesU_r, makesU_r, makesU_r]; omega
/-- it does what both do -/
theorem comp_app (l : List Ky) : ∀ vs us, ∀ (d : List Cl), takesU us ≤ d.length → (∀ u ∈ us, mU l u) → (∀ v ∈ vs, mU l v) → (∀ c ∈ d, riseA c.s = true) → takesU vs ≤ (app l us d).length → app l (compU l us vs) d = app l vs (app l us d) := by
  refine comp_ind ?_ ?_ ?_ ?_ ?_ ?_ ?_ ?_ ?_ ?_
  · intro us d _ _ _ _ _; rw [compU_nil]; rfl
  · intro us r s vs ih d h1 h2 h3 h4 h5
    rw [compU_ins]
    show _ :: app l (compU l us vs) d = _ :: app l vs (app l us d)
    rw [ih d h1 h2 (fun v hv => h3 v (List.mem_cons_of_mem _ hv)) h4 h5]
  · intro us vs ih d h1 h2 h3 h4 h5
    rw [takesU_d] at h1
    rw [compU_dd]
    exact ih (d.drop 1) (by rw [List.length_drop]; omega) (fun u hu => h2 u (List.mem_cons_of_mem _ hu)) h3 (fun c hc => h4 c (List.mem_of_mem_drop hc)) h5
  · intro us q vs ih d h1 h2 h3 h4 h5
    rw [takesU_d] at h1
    rw [compU_dr]
    exact ih (d.drop 1) (by rw [List.length_drop]; omega) (fun u hu => h2 u (List.mem_cons_of_mem _ hu)) h3 (fun c hc => h4 c (List.mem_of_mem_drop hc)) h5
  · intro vs ih d h1 h2 h3 h4 h5
    rw [takesU_d] at h5
    have h5 : takesU vs + 1 ≤ d.length := h5
    rw [compU_nd]
    exact ih (d.drop 1) (Nat.zero_le _) h2 (fun v hv => h3 v (List.mem_cons_of_mem _ hv)) (fun c hc => h4 c (List.mem_of_mem_drop hc)) (by show takesU vs ≤ (d.drop 1).length; rw [List.length_drop]; omega)
  · intro q vs ih d h1 h2 h3 h4 h5
    rw [takesU_r] at h5
    have h5 : takesU vs + 1 ≤ d.length := h5
    have hq : mayP l q = 0 := h3 (.ret q) (by simp)
    rw [compU_nr, law_nil_left (mayP_zero hq).2.1]
    have := ih (d.drop 1) (Nat.zero_le _) h2 (fun v hv => h3 v (List.mem_cons_of_mem _ hv)) (fun c hc => h4 c (List.mem_of_mem_drop hc)) (by show takesU vs ≤ (d.drop 1).length; rw [List.length_drop]; omega)
    show (d.take 1).map _ ++ app l (compU l [] vs) (d.drop 1) = (d.take 1).map _ ++ app l vs (d.drop 1)
    rw [this]; rfl
  · intro r s us vs ih d h1 h2 h3 h4 h5
    rw [takesU_i] at h1
    rw [takesU_d] at h5
    have h5 : takesU vs + 1 ≤ (app l us d).length + 1 := h5
    rw [compU_id]
    exact ih d h1 (fun u hu => h2 u (List.mem_cons_of_mem _ hu)) (fun v hv => h3 v (List.mem_cons_of_mem _ hv)) h4 (by omega)
  · intro r s us q vs ih d h1 h2 h3 h4 h5
    rw [takesU_i] at h1
    rw [takesU_r] at h5
    have h5 : takesU vs + 1 ≤ (app l us d).length + 1 := h5
    rw [compU_ir]
    show _ :: app l (compU l us vs) d = actC l ⟨r, s⟩ q :: app l vs (app l us d)
    rw [ih d h1 (fun u hu => h2 u (List.mem_cons_of_mem _ hu)) (fun v hv => h3 v (List.mem_cons_of_mem _ hv)) h4 (by omega)]
    rfl
  · intro p us vs ih d h1 h2 h3 h4 h5
    rw [takesU_r] at h1
    rw [takesU_d] at h5
    cases d with
    | nil => simp at h1
    | cons c d =>
      have h5 : takesU vs + 1 ≤ (app l us d).length + 1 := h5
      rw [compU_rd]
      exact ih d (by simp at h1; omega) (fun u hu => h2 u (List.mem_cons_of_mem _ hu)) (fun v hv => h3 v (List.mem_cons_of_mem _ hv)) (fun x hx => h4 x (List.mem_cons_of_mem _ hx)) (by omega)
  · intro p us q vs ih d h1 h2 h3 h4 h5
    rw [takesU_r] at h1
    rw [takesU_r] at h5
    cases d with
    | nil => simp at h1
    | cons c d =>
      have h5 : takesU vs + 1 ≤ (app l us d).length + 1 := h5
      rw [compU_rr]
      show actC l c (composeP p q) :: app l (compU l us vs) d = actC l (actC l c p) q :: app l vs (app l us d)
      rw [ih d (by simp at h1; omega) (fun u hu => h2 u (List.mem_cons_of_mem _ hu)) (fun v hv => h3 v (List.mem_cons_of_mem _ hv)) (fun x hx => h4 x (List.mem_cons_of_mem _ hx)) (by omega),
        act_comp (h2 (.ret p) (by simp)) (h3 (.ret q) (by simp)) (h4 c (by simp))]
theorem mem_tail {P : Un → Prop} {u : Un} {us : List Un} (h : ∀ x ∈ u :: us, P x) : ∀ x ∈ us, P x := fun x hx => h x (List.mem_cons_of_mem _ hx)
/-- what holds of all units of both, and of what they come to, holds of all that come -/
theorem comp_all {P : Un → Prop} (l : List Ky) (hd : P .del) (hir : ∀ r s q, P (.ins r s) → P (.ret q) → P (.ins r (actC l ⟨r, s⟩ q).s)) (hnr : ∀ q, P (.ret q) → P (.ret (composeP [] q))) (hrr : ∀ p q, P (.ret p) → P (.ret q) → P (.ret (composeP p q))) :
    ∀ vs us, (∀ u ∈ us, P u) → (∀ v ∈ vs, P v) → ∀ x ∈ compU l us vs, P x := by
  have cons : ∀ {u : Un} {t : List Un}, P u → (∀ x ∈ t, P x) → ∀ x ∈ u :: t, P x := fun h1 h2 x hx => by
    rcases List.mem_cons.1 hx with rfl | hx
    · exact h1
    · exact h2 x hx
  refine comp_ind ?_ ?_ ?_ ?_ ?_ ?_ ?_ ?_ ?_ ?_
  · intro us h1 _; rw [compU_nil]; exact h1
  · intro us r s vs ih h1 h2; rw [compU_ins]; exact cons (h2 _ (by simp)) (ih h1 (mem_tail h2))
  · intro us vs ih h1 h2; rw [compU_dd]; exact cons hd (ih (mem_tail h1) h2)
  · intro us q vs ih h1 h2; rw [compU_dr]; exact cons hd (ih (mem_tail h1) h2)
  · intro vs ih h1 h2; rw [compU_nd]; exact cons hd (ih h1 (mem_tail h2))
  · intro q vs ih h1 h2; rw [compU_nr]; exact cons (hnr q (h2 _ (by simp))) (ih h1 (mem_tail h2))
  · intro r s us vs ih h1 h2; rw [compU_id]; exact ih (mem_tail h1) (mem_tail h2)
  · intro r s us q vs ih h1 h2; rw [compU_ir]; exact cons (hir r s q (h1 _ (by simp)) (h2 _ (by simp))) (ih (mem_tail h1) (mem_tail h2))
  · intro p us vs ih h1 h2; rw [compU_rd]; exact cons hd (ih (mem_tail h1) (mem_tail h2))
  · intro p us q vs ih h1 h2; rw [compU_rr]; exact cons (hrr p q (h1 _ (by simp)) (h2 _ (by simp))) (ih (mem_tail h1) (mem_tail h2))
theorem comp_vU {l : List Ky} (hl : l.length ≤ 64) {us vs : List Un} (hu : ∀ u ∈ us, vU l u) (hv : ∀ v ∈ vs, vU l v) : ∀ x ∈ compU l us vs, vU l x :=
  comp_all l trivial (fun r s q h1 h2 => okCl_act (c := ⟨r, s⟩) hl h1 h2) (fun q h => by rw [law_nil_left (mayP_zero h).2.1]; exact h) (fun p q h1 h2 => stay_comp hl h1 h2) vs us hu hv
theorem comp_mU {l : List Ky} (hl : l.length ≤ 64) {us vs : List Un} (hu : ∀ u ∈ us, mU l u) (hv : ∀ v ∈ vs, mU l v) : ∀ x ∈ compU l us vs, mU l x :=
  comp_all l trivial (fun r s q h1 h2 => ⟨h1.1, stay_apply hl h1.2 (stay_filter _ h2)⟩) (fun q h => by rw [law_nil_left (mayP_zero h).2.1]; exact h) (fun p q h1 h2 => stay_comp hl h1 h2) vs us hu hv
/-- values in their ranges -/
theorem comp_okUn {l : List Ky} {us vs : List Un} (hu : ∀ u ∈ us, mU l u ∧ okUn u) (hv : ∀ v ∈ vs, mU l v ∧ okUn v) (hl : l.length ≤ 64) : ∀ x ∈ compU l us vs, mU l x ∧ okUn x := by
  refine comp_all (P := fun u => mU l u ∧ okUn u) l ⟨trivial, trivial⟩ (fun r s q h1 h2 => ⟨⟨h1.1.1, stay_apply hl h1.1.2 (stay_filter _ h2.1)⟩, ?_⟩) (fun q h => by rw [law_nil_left (mayP_zero h.1).2.1]; exact h) (fun p q h1 h2 => ⟨stay_comp hl h1.1 h2.1, vs_comp (mayP_zero h1.1).2.1 (mayP_zero h2.1).2.1 h1.2 h2.2⟩) vs us hu hv
  exact vr_act (c := ⟨r, s⟩) h1.1.2 h2.1 h1.2 h2.2
/-- the last cell stays the last one -/
theorem app_pos' (l : List Ky) {us : List Un} {d : List Cl} {n a : Nat} (hd : 1 ≤ d.length) (h1 : takesU us ≤ d.length) (h2 : finU n a us = true) (h3 : n = a + d.length) : 1 ≤ (app l us d).length := by
  rcases List.eq_nil_or_concat d with rfl | ⟨t, c, rfl⟩
  · simp at hd
  · rw [List.concat_eq_append] at *
    obtain ⟨t', c', e, _⟩ := app_last l us t c n a (by simpa using h1) h2 (by simpa using h3)
    rw [e]; simp
theorem comp_fin (l : List Ky) : ∀ vs us, ∀ (d : List Cl) (n a n' a' : Nat), takesU us ≤ d.length → takesU vs ≤ (app l us d).length → finU n a us = true → finU n' a' vs = true → n = a + d.length → n' = a' + (app l us d).length → finU n a (compU l us vs) = true := by
  refine comp_ind ?_ ?_ ?_ ?_ ?_ ?_ ?_ ?_ ?_ ?_
  · intro us d n a n' a' _ _ h3 _ _ _; rw [compU_nil]; exact h3
  · intro us r s vs ih d n a n' a' h1 h2 h3 h4 h5 h6
    simp only [finU, Bool.and_eq_true, decide_eq_true_eq] at h4
    rw [compU_ins]
    show (decide (a ≠ n) && finU n a (compU l us vs)) = true
    rw [ih d n a n' a' h1 h2 h3 h4.2 h5 h6, Bool.and_true]
    refine decide_eq_true (fun e => ?_)
    -- then nothing is left below either
    have hd0 : d = [] := List.eq_nil_of_length_eq_zero (by omega)
    subst hd0
    have hus := finU_end (n := n) (by rw [← e]; rw [← e] at h3; exact h3) (by simpa using h1)
    subst hus
    have : (app l [] ([] : List Cl)).length = 0 := rfl
    omega
  · intro us vs ih d n a n' a' h1 h2 h3 h4 h5 h6
    rw [takesU_d] at h1
    simp only [finU, Bool.and_eq_true] at h3
    rw [compU_dd]
    show (decide (a + 1 ≠ n) && finU n (a + 1) (compU l us (.del :: vs))) = true
    rw [h3.1, Bool.true_and]
    exact ih (d.drop 1) n (a + 1) n' a' (by rw [List.length_drop]; omega) h2 h3.2 h4 (by rw [List.length_drop]; omega) h6
  · intro us q vs ih d n a n' a' h1 h2 h3 h4 h5 h6
    rw [takesU_d] at h1
    simp only [finU, Bool.and_eq_true] at h3
    rw [compU_dr]
    show (decide (a + 1 ≠ n) && finU n (a + 1) (compU l us (.ret q :: vs))) = true
    rw [h3.1, Bool.true_and]
    exact ih (d.drop 1) n (a + 1) n' a' (by rw [List.length_drop]; omega) h2 h3.2 h4 (by rw [List.length_drop]; omega) h6
  · intro vs ih d n a n' a' h1 h2 h3 h4 h5 h6
    rw [takesU_d] at h2
    have h2 : takesU vs + 1 ≤ d.length := h2
    have h6 : n' = a' + d.length := h6
    simp only [finU, Bool.and_eq_true, decide_eq_true_eq] at h4
    rw [compU_nd]
    show (decide (a + 1 ≠ n) && finU n (a + 1) (compU l [] vs)) = true
    rw [ih (d.drop 1) n (a + 1) n' (a' + 1) (Nat.zero_le _) (by show _ ≤ (d.drop 1).length; rw [List.length_drop]; omega) rfl h4.2 (by rw [List.length_drop]; omega) (by show _ = _ + (d.drop 1).length; rw [List.length_drop]; omega), Bool.and_true]
    exact decide_eq_true (by omega)
  · intro q vs ih d n a n' a' h1 h2 h3 h4 h5 h6
    rw [takesU_r] at h2
    have h2 : takesU vs + 1 ≤ d.length := h2
    have h6 : n' = a' + d.length := h6
    simp only [finU] at h4
    rw [compU_nr]
    exact ih (d.drop 1) n (a + 1) n' (a' + 1) (Nat.zero_le _) (by show _ ≤ (d.drop 1).length; rw [List.length_drop]; omega) rfl h4 (by rw [List.length_drop]; omega) (by show _ = _ + (d.drop 1).length; rw [List.length_drop]; omega)
  · intro r s us vs ih d n a n' a' h1 h2 h3 h4 h5 h6
    rw [takesU_i] at h1
    rw [takesU_d] at h2
    have h2 : takesU vs + 1 ≤ (app l us d).length + 1 := h2
    have h6 : n' = a' + ((app l us d).length + 1) := h6
    simp only [finU, Bool.and_eq_true, decide_eq_true_eq] at h3 h4
    rw [compU_id]
    exact ih d n a n' (a' + 1) h1 (by omega) h3.2 h4.2 h5 (by omega)
  · intro r s us q vs ih d n a n' a' h1 h2 h3 h4 h5 h6
    rw [takesU_i] at h1
    rw [takesU_r] at h2
    have h2 : takesU vs + 1 ≤ (app l us d).length + 1 := h2
    have h6 : n' = a' + ((app l us d).length + 1) := h6
    simp only [finU, Bool.and_eq_true, decide_eq_true_eq] at h3 h4
    rw [compU_ir]
    show (decide (a ≠ n) && finU n a (compU l us vs)) = true
    rw [ih d n a n' (a' + 1) h1 (by omega) h3.2 h4 h5 (by omega), Bool.and_true]
    exact decide_eq_true h3.1
  · intro p us vs ih d n a n' a' h1 h2 h3 h4 h5 h6
    rw [takesU_r] at h1
    rw [takesU_d] at h2
    cases d with
    | nil => simp at h1
    | cons c d =>
      simp only [List.length_cons] at h1 h5
      have h2 : takesU vs + 1 ≤ (app l us d).length + 1 := h2
      have h6 : n' = a' + ((app l us d).length + 1) := h6
      simp only [finU, Bool.and_eq_true, decide_eq_true_eq] at h3 h4
      rw [compU_rd]
      show (decide (a + 1 ≠ n) && finU n (a + 1) (compU l us vs)) = true
      rw [ih d n (a + 1) n' (a' + 1) (by omega) (by omega) h3 h4.2 (by omega) (by omega), Bool.and_true]
      refine decide_eq_true (fun e => ?_)
      have hd0 : d = [] := List.eq_nil_of_length_eq_zero (by omega)
      subst hd0
      have hus := finU_end (n := n) (by rw [← e]; rw [← e] at h3; exact h3) (by simpa using h1)
      subst hus
      have : (app l [] ([] : List Cl)).length = 0 := rfl
      omega
  · intro p us q vs ih d n a n' a' h1 h2 h3 h4 h5 h6
    rw [takesU_r] at h1
    rw [takesU_r] at h2
    cases d with
    | nil => simp at h1
    | cons c d =>
      simp only [List.length_cons] at h1 h5
      have h2 : takesU vs + 1 ≤ (app l us d).length + 1 := h2
      have h6 : n' = a' + ((app l us d).length + 1) := h6
      simp only [finU] at h3 h4
      rw [compU_rr]
      exact ih d n (a + 1) n' (a' + 1) (by omega) (by omega) h3 h4 (by omega) (by omega)
/-- both fit: so does the composed one -/
theorem comp_fit {l : List Ky} (hl : l.length ≤ 64) {us vs : List Un} {d : List Cl} {most : Nat} (hf : FitU l us d.length most) (hg : FitU l vs (app l us d).length most) (hm : most ≤ 536870912) : FitU l (compU l us vs) d.length most := by
  obtain ⟨s1, s2⟩ := comp_size l vs us
  have hlen := app_len l us d hf.t
  have h1 := hf.t; have h2 := hg.t; have h3 := hf.m; have h4 := hg.m; have h5 := hf.nm; have h6 := hg.nm; have h7 := hf.mb; have h8 := hg.mb; have h9 := hf.tb
  refine ⟨comp_vU hl hf.v hg.v, by omega, hf.n1, hf.nm, comp_fin l vs us d d.length 0 _ 0 hf.t hg.t hf.f hg.f (by omega) (by omega), by omega, by omega, by omega⟩
theorem comp_len (l : List Ky) : ∀ vs us, (compU l us vs).length ≤ us.length + vs.length := by
  refine comp_ind ?_ ?_ ?_ ?_ ?_ ?_ ?_ ?_ ?_ ?_
  · intro us; rw [compU_nil]; simp
  · intro us r s vs ih; rw [compU_ins]; simp only [List.length_cons]; omega
  · intro us vs ih; rw [compU_dd]; simp only [List.length_cons] at *; omega
  · intro us q vs ih; rw [compU_dr]; simp only [List.length_cons] at *; omega
  · intro vs ih; rw [compU_nd]; simp only [List.length_cons] at *; omega
  · intro q vs ih; rw [compU_nr]; simp only [List.length_cons] at *; omega
  · intro r s us vs ih; rw [compU_id]; simp only [List.length_cons] at *; omega
  · intro r s us q vs ih; rw [compU_ir]; simp only [List.length_cons] at *; omega
  · intro p us vs ih; rw [compU_rd]; simp only [List.length_cons] at *; omega
  · intro p us q vs ih; rw [compU_rr]; simp only [List.length_cons] at *; omega
/-- the special cases of the laws -/
theorem comp_none {l : List Ky} : ∀ (vs : List Un), (∀ v ∈ vs, mU l v) → compU l [] vs = vs
  | [], _ => compU_nil l []
  | .ins r s :: vs, h => by rw [compU_ins, comp_none vs (mem_tail h)]
  | .del :: vs, h => by rw [compU_nd, comp_none vs (mem_tail h)]
  | .ret q :: vs, h => by rw [compU_nr, comp_none vs (mem_tail h), law_nil_left (mayP_zero (h (.ret q) (by simp))).2.1]
theorem comp_rets (l : List Ky) (p : List Ch) (us vs : List Un) : ∀ k, compU l (List.replicate k (.ret p) ++ us) (List.replicate k (.ret []) ++ vs) = List.replicate k (.ret p) ++ compU l us vs
  | 0 => rfl
  | k + 1 => by
    rw [List.replicate_succ, List.replicate_succ]
    show compU l (.ret p :: (List.replicate k (.ret p) ++ us)) (.ret [] :: (List.replicate k (.ret []) ++ vs)) = _
    rw [compU_rr, comp_rets l p us vs k, composeP_nil]; rfl
theorem comp_inss (l : List Ky) (s : List At) (us vs : List Un) : ∀ (r : List Int), compU l (r.map (fun r => Un.ins r s) ++ us) (List.replicate r.length (.ret []) ++ vs) = r.map (fun r => Un.ins r s) ++ compU l us vs
  | [] => rfl
  | a :: r => by
    rw [List.length_cons, List.replicate_succ]
    show compU l (.ins a s :: (r.map (fun r => Un.ins r s) ++ us)) (.ret [] :: (List.replicate r.length (.ret []) ++ vs)) = _
    rw [compU_ir, comp_inss l s us vs r, actC_nil]; rfl
theorem comp_gone (l : List Ky) (s : List At) (us vs : List Un) : ∀ (r : List Int), compU l (r.map (fun r => Un.ins r s) ++ us) (List.replicate r.length .del ++ vs) = compU l us vs
  | [] => rfl
  | a :: r => by
    rw [List.length_cons, List.replicate_succ]
    show compU l (.ins a s :: (r.map (fun r => Un.ins r s) ++ us)) (.del :: (List.replicate r.length .del ++ vs)) = _
    rw [compU_id, comp_gone l s us vs r]
theorem comp_over (l : List Ky) (p q : List Ch) : ∀ k, compU l (List.replicate k (.ret p)) (List.replicate k (.ret q)) = List.replicate k (.ret (composeP p q))
  | 0 => compU_nil l []
  | k + 1 => by rw [List.replicate_succ, List.replicate_succ, compU_rr, comp_over l p q k]; rfl
/-- a delete ahead -/
theorem comp_dels {l : List Ky} (k : Nat) : ∀ (vs I : List Un) (g : Nat), (∀ v ∈ vs, mU l v) → cn (compU l (List.replicate k .del) vs) I g = cn vs I (g + k)
  | [], I, g, _ => by
    rw [compU_nil]
    have := cn_del k [] I g
    rw [List.append_nil] at this
    exact this
  | .ins r s :: vs, I, g, h => by
    rw [compU_ins, cn, cn]
    exact comp_dels k vs _ g (mem_tail h)
  | .del :: vs, I, g, h => by
    have e : compU l (List.replicate k .del) (.del :: vs) = List.replicate k .del ++ .del :: compU l [] vs := by
      induction k with
      | zero => exact compU_nd l vs
      | succ k ih => rw [List.replicate_succ, compU_dd, ih]; rfl
    rw [e, cn_del, comp_none vs (mem_tail h)]
  | .ret q :: vs, I, g, h => by
    have e : compU l (List.replicate k .del) (.ret q :: vs) = List.replicate k .del ++ .ret (composeP [] q) :: compU l [] vs := by
      induction k with
      | zero => exact compU_nr l vs q
      | succ k ih => rw [List.replicate_succ, compU_dr, ih]; rfl
    rw [e, cn_del, comp_none vs (mem_tail h), law_nil_left (mayP_zero (h (.ret q) (by simp))).2.1]
theorem same_keys {p q : List Ch} (hp : riseC p = true) (hq : riseC q = true) (h : p.map (·.key) = q.map (·.key)) : composeP p q = q := by
  have hp' := riseC_srt.1 hp
  have hq' := riseC_srt.1 hq
  obtain ⟨a1, a2, _⟩ := compose_all hq' hp'
  refine lk_ext Ch.key a1 hq' fun k => ?_
  rw [a2]
  cases hk : lk Ch.key q k with
  | some c => rfl
  | none =>
    cases hk2 : lk Ch.key p k with
    | none => rfl
    | some c =>
      exfalso
      have h1 : k ∈ p.map (·.key) := List.mem_map.2 ⟨c, lk_mem Ch.key hk2, lk_key Ch.key hk2⟩
      rw [h] at h1
      obtain ⟨x, hx, hxk⟩ := List.mem_map.1 h1
      have := lk_of_mem Ch.key hq' hx
      rw [hxk, hk] at this; cases this
end Go.Proofs.YtnppoifgfehpfaaGreatDoor
/- What compose.both tells a maker. Plain mathematics. -/
namespace Go.Proofs.YtnppoifgfehpfaaGreatDoor
set_option linter.unusedVariables false
set_option linter.unusedSimpArgs false

/-- runes with a set, told one by one with a patch on them -/
def insM (l : List Ky) (s : List At) (p : List Ch) (m : Mk) (r : List Int) : Mk := r.foldl (fun m x => mkInsert m [x] (actC l ⟨x, s⟩ p).s) m
theorem insM_snoc (l : List Ky) (s : List At) (p : List Ch) (m : Mk) (r : List Int) (x : Int) : insM l s p m (r ++ [x]) = mkInsert (insM l s p m r) [x] (actC l ⟨x, s⟩ p).s := by unfold insM; rw [List.foldl_append]; rfl
theorem insM_told {l : List Ky} {s : List At} {p : List Ch} : ∀ (r : List Int) {m : Mk} {us : List Un}, Told m us → Told (insM l s p m r) (us ++ r.map (fun x => Un.ins x (actC l ⟨x, s⟩ p).s))
  | [], m, us, h => by simpa [insM] using h
  | x :: r, m, us, h => by
    have h1 := h.insert [x] (actC l ⟨x, s⟩ p).s
    have h2 := insM_told (l := l) (s := s) (p := p) r h1
    have e : us ++ List.map (fun r => Un.ins r (actC l ⟨x, s⟩ p).s) [x] ++ r.map (fun x => Un.ins x (actC l ⟨x, s⟩ p).s) = us ++ (x :: r).map (fun x => Un.ins x (actC l ⟨x, s⟩ p).s) := by simp
    rw [e] at h2
    exact h2
theorem insM_B {l : List Ky} {s : List At} {p : List Ch} {S : Nat} : ∀ (r : List Int) {m : Mk} {K : Nat}, MkB m K S → (∀ x ∈ r, (actC l ⟨x, s⟩ p).s.length ≤ S) → MkB (insM l s p m r) (K + r.length) S
  | [], m, K, h, _ => h
  | x :: r, m, K, h, hs => by
    have h1 := h.insert [x] (hs x (by simp))
    have h2 := insM_B (l := l) (s := s) (p := p) r h1 (fun y hy => hs y (List.mem_cons_of_mem _ hy))
    exact h2.mono (by simp; omega) (Nat.le_refl _)
/-- what both does -/
def bothM (l : List Ky) (m : Mk) (u o : Opd) : Mk :=
  if u.k = 1 then (if o.k = 1 then mkRetain m o.n (composeP u.p o.p) else mkDelete m o.n) else if o.k = 1 then insM l u.s o.p m u.r else m

end Go.Proofs.YtnppoifgfehpfaaGreatDoor
/- What compose.Compose's rounds do to units. Plain mathematics. -/
namespace Go.Proofs.YtnppoifgfehpfaaGreatDoor
set_option linter.unusedVariables false
set_option linter.unusedSimpArgs false

/-- an op's part from a on, of length n -/
def cutO (o : Opd) (a n : Nat) : Opd := if o.k = 2 then { o with r := (o.r.drop a).take n } else { o with n := n }
def lenO (o : Opd) : Nat := (sizeO o).toNat
theorem lenO_of {o : Opd} (h : isOp o) : 1 ≤ lenO o ∧ (lenO o : Int) = sizeO o := by
  unfold lenO
  rcases isOp_kind h with hk | hk | hk
  · obtain ⟨e, hr⟩ := opI_of h hk
    have h1 : sizeO o = o.r.length := by unfold sizeO; rw [if_pos hk]
    have := List.length_pos_iff.2 hr
    omega
  · obtain ⟨e, hn⟩ := opD_of h hk
    have h1 : sizeO o = o.n := by unfold sizeO; rw [if_neg (by rw [hk]; decide)]
    omega
  · obtain ⟨e, hn⟩ := opR_of h hk
    have h1 : sizeO o = o.n := by unfold sizeO; rw [if_neg (by rw [hk]; decide)]
    omega
/-- what take answers, and what is left -/
def tookV (X : List OpS) (a n : Nat) (o : Opd) (X' : List OpS) (a' : Nat) : Prop :=
  match X with
  | [] => o = opR n [] ∧ X' = [] ∧ a' = 0
  | x :: t => o = cutO x.o a (min n (lenO x.o - a)) ∧ ((a + min n (lenO x.o - a) = lenO x.o ∧ X' = t ∧ a' = 0) ∨ (a + min n (lenO x.o - a) < lenO x.o ∧ X' = x :: t ∧ a' = a + min n (lenO x.o - a)))
/-- the kind of what comes first -/
def kindR (X : List OpS) : Int := match X with
  | [] => 1
  | o :: _ => o.o.k
def longR (X : List OpS) (a : Nat) : Nat := match X with
  | [] => 536870912
  | o :: _ => lenO o.o - a
/-- the units that are left -/
def restU (X : List OpS) (a : Nat) : List Un := (units (osOf X)).drop a
theorem lenO_units {o : Opd} (h : isOp o) : (unitsO o).length = lenO o := by
  obtain ⟨_, h1⟩ := lenO_of h
  rcases isOp_kind h with hk | hk | hk
  · have h2 : (unitsO o).length = o.r.length := by unfold unitsO; rw [if_pos hk, List.length_map]
    have h3 : sizeO o = o.r.length := by unfold sizeO; rw [if_pos hk]
    omega
  · have h2 : (unitsO o).length = o.n.toNat := by unfold unitsO; rw [if_neg (by rw [hk]; decide), if_neg (by rw [hk]; decide), List.length_replicate]
    have h3 : sizeO o = o.n := by unfold sizeO; rw [if_neg (by rw [hk]; decide)]
    omega
  · have h2 : (unitsO o).length = o.n.toNat := by unfold unitsO; rw [if_neg (by rw [hk]; decide), if_pos hk, List.length_replicate]
    have h3 : sizeO o = o.n := by unfold sizeO; rw [if_neg (by rw [hk]; decide)]
    omega
/-- an op's part, its units -/
theorem cut_units {o : Opd} (h : isOp o) {a q : Nat} (hq : 1 ≤ q) (hl : a + q ≤ lenO o) : isOp (cutO o a q) ∧ unitsO (cutO o a q) = ((unitsO o).drop a).take q ∧ (cutO o a q).k = o.k ∧ (cutO o a q).s = o.s ∧ (cutO o a q).p = o.p := by
  have hu := lenO_units h
  rcases isOp_kind h with hk | hk | hk
  · obtain ⟨e, hr⟩ := opI_of h hk
    have h1 : unitsO o = o.r.map (fun r => Un.ins r o.s) := by unfold unitsO; rw [if_pos hk]
    have h2 : cutO o a q = opI ((o.r.drop a).take q) o.s := by
      unfold cutO; rw [if_pos hk]
      conv => lhs; rw [e]
      rfl
    rw [h1, List.length_map] at hu
    rw [h2, unitsO_I, h1, ← List.map_drop, ← List.map_take]
    refine ⟨isOp_opI (fun h0 => ?_), rfl, hk.symm, rfl, by rw [e]; rfl⟩
    have := congrArg List.length h0
    rw [List.length_take, List.length_drop] at this
    simp at this
    omega
  · obtain ⟨e, hn⟩ := opD_of h hk
    have h1 : unitsO o = List.replicate o.n.toNat .del := by unfold unitsO; rw [if_neg (by rw [hk]; decide), if_neg (by rw [hk]; decide)]
    have h2 : cutO o a q = opD (q : Int) := by unfold cutO; rw [if_neg (by rw [hk]; decide)]; rw [e]; rfl
    rw [h1, List.length_replicate] at hu
    rw [h2, unitsO_D, h1, List.drop_replicate, List.take_replicate, Nat.min_eq_left (by omega)]
    exact ⟨isOp_opD (by omega), rfl, hk.symm, by rw [e]; rfl, by rw [e]; rfl⟩
  · obtain ⟨e, hn⟩ := opR_of h hk
    have h1 : unitsO o = List.replicate o.n.toNat (.ret o.p) := by unfold unitsO; rw [if_neg (by rw [hk]; decide), if_pos hk]
    have h2 : cutO o a q = opR (q : Int) o.p := by
      unfold cutO; rw [if_neg (by rw [hk]; decide)]
      conv => lhs; rw [e]
      rfl
    rw [h1, List.length_replicate] at hu
    rw [h2, unitsO_R, h1, List.drop_replicate, List.take_replicate, Nat.min_eq_left (by omega)]
    exact ⟨isOp_opR (by omega), rfl, hk.symm, by rw [e]; rfl, rfl⟩
/-- what was taken, and what is left -/
theorem took_units {x : OpS} {t X' : List OpS} {a n a' : Nat} {o : Opd} (hx : isOp x.o) (ha : a < lenO x.o) (hn : 1 ≤ n) (h : tookV (x :: t) a n o X' a') :
    restU (x :: t) a = unitsO o ++ restU X' a' ∧ isOp o ∧ (unitsO o).length = min n (lenO x.o - a) ∧ o.k = x.o.k ∧ o.s = x.o.s ∧ o.p = x.o.p := by
  obtain ⟨h1, h2⟩ := h
  obtain ⟨g1, g2, g3, g4, g5⟩ := cut_units hx (a := a) (q := min n (lenO x.o - a)) (by omega) (by omega)
  rw [← h1] at g1 g2 g3 g4 g5
  have hl := lenO_units hx
  have e : units (osOf (x :: t)) = unitsO x.o ++ units (osOf t) := rfl
  have hlen : (unitsO o).length = min n (lenO x.o - a) := by rw [g2, List.length_take, List.length_drop, hl]; omega
  refine ⟨?_, g1, hlen, g3, g4, g5⟩
  unfold restU
  rw [e, List.drop_append_of_le_length (by omega), g2]
  rcases h2 with ⟨h3, rfl, rfl⟩ | ⟨h3, rfl, rfl⟩
  · rw [List.take_of_length_le (by rw [List.length_drop]; omega), List.drop_zero]
  · rw [e, List.drop_append_of_le_length (by omega), ← List.append_assoc, ← List.drop_drop, List.take_append_drop]
/-- ins units counted -/
def insN : List Un → Nat
  | [] => 0
  | .ins _ _ :: us => insN us + 1
  | _ :: us => insN us
theorem insN_append (a b : List Un) : insN (a ++ b) = insN a + insN b := by
  induction a with
  | nil => simp [insN]
  | cons u a ih => cases u <;> simp [insN, ih] <;> omega
theorem insN_ins (r : List Int) (s : List At) : insN (r.map (fun r => Un.ins r s)) = r.length := by
  induction r with
  | nil => rfl
  | cons a r ih => show insN _ + 1 = _; rw [ih]; rfl
theorem insN_x (x : List OpS) (h : ∀ o ∈ x, isOp o.o) : x.length + insN (units (osOf x)) ≤ szN x := by
  induction x with
  | nil => exact Nat.le_refl _
  | cons a x ih =>
    have h1 := ih (fun o ho => h o (List.mem_cons_of_mem _ ho))
    have e : units (osOf (a :: x)) = unitsO a.o ++ units (osOf x) := rfl
    rw [e, insN_append, szN_cons, List.length_cons]
    have : insN (unitsO a.o) ≤ a.o.r.length := by
      rcases isOp_kind (h a (by simp)) with hk | hk | hk
      · unfold unitsO; rw [if_pos hk, insN_ins]; exact Nat.le_refl _
      · have : ∀ k, insN (List.replicate k .del) = 0 := fun k => by
          induction k with
          | zero => rfl
          | succ k ih => rw [List.replicate_succ]; exact ih
        unfold unitsO; rw [if_neg (by rw [hk]; decide), if_neg (by rw [hk]; decide), this]; exact Nat.zero_le _
      · have : ∀ k p, insN (List.replicate k (.ret p)) = 0 := fun k p => by
          induction k with
          | zero => rfl
          | succ k ih => rw [List.replicate_succ]; exact ih
        unfold unitsO; rw [if_neg (by rw [hk]; decide), if_pos hk, this]; exact Nat.zero_le _
    omega
/-- the rounds' steps -/
theorem comp_ins (l : List Ky) (A B : List Un) (s : List At) : ∀ r : List Int, compU l A (r.map (fun r => Un.ins r s) ++ B) = r.map (fun r => Un.ins r s) ++ compU l A B
  | [] => rfl
  | a :: r => by
    show compU l A (.ins a s :: (r.map (fun r => Un.ins r s) ++ B)) = _
    rw [compU_ins, comp_ins l A B s r]; rfl
theorem comp_del (l : List Ky) (A B : List Un) (v : Un) (hv : v = .del ∨ ∃ q, v = .ret q) : ∀ k, compU l (List.replicate k .del ++ A) (v :: B) = List.replicate k .del ++ compU l A (v :: B)
  | 0 => rfl
  | k + 1 => by
    rw [List.replicate_succ]
    show compU l (.del :: (List.replicate k .del ++ A)) (v :: B) = _
    rcases hv with rfl | ⟨q, rfl⟩
    · rw [compU_dd, comp_del l A B _ (.inl rfl) k]; rfl
    · rw [compU_dr, comp_del l A B _ (.inr ⟨q, rfl⟩) k]; rfl
theorem comp_retret (l : List Ky) (A B : List Un) (p q : List Ch) : ∀ k, compU l (List.replicate k (.ret p) ++ A) (List.replicate k (.ret q) ++ B) = List.replicate k (.ret (composeP p q)) ++ compU l A B
  | 0 => rfl
  | k + 1 => by
    rw [List.replicate_succ, List.replicate_succ, List.replicate_succ]
    show compU l (.ret p :: (List.replicate k (.ret p) ++ A)) (.ret q :: (List.replicate k (.ret q) ++ B)) = _
    rw [compU_rr, comp_retret l A B p q k]; rfl
theorem comp_retdel (l : List Ky) (A B : List Un) (p : List Ch) : ∀ k, compU l (List.replicate k (.ret p) ++ A) (List.replicate k .del ++ B) = List.replicate k .del ++ compU l A B
  | 0 => rfl
  | k + 1 => by
    rw [List.replicate_succ, List.replicate_succ]
    show compU l (.ret p :: (List.replicate k (.ret p) ++ A)) (.del :: (List.replicate k .del ++ B)) = _
    rw [compU_rd, comp_retdel l A B p k]; rfl
theorem comp_insret (l : List Ky) (A B : List Un) (s : List At) (q : List Ch) : ∀ r : List Int, compU l (r.map (fun r => Un.ins r s) ++ A) (List.replicate r.length (.ret q) ++ B) = r.map (fun x => Un.ins x (actC l ⟨x, s⟩ q).s) ++ compU l A B
  | [] => rfl
  | a :: r => by
    rw [List.length_cons, List.replicate_succ]
    show compU l (.ins a s :: (r.map (fun r => Un.ins r s) ++ A)) (.ret q :: (List.replicate r.length (.ret q) ++ B)) = _
    rw [compU_ir, comp_insret l A B s q r]; rfl
theorem comp_nilret (l : List Ky) (B : List Un) (q : List Ch) : ∀ k, compU l [] (List.replicate k (.ret q) ++ B) = List.replicate k (.ret (composeP [] q)) ++ compU l [] B
  | 0 => rfl
  | k + 1 => by
    rw [List.replicate_succ, List.replicate_succ]
    show compU l [] (.ret q :: (List.replicate k (.ret q) ++ B)) = _
    rw [compU_nr, comp_nilret l B q k]; rfl
theorem comp_nildel (l : List Ky) (B : List Un) : ∀ k, compU l [] (List.replicate k .del ++ B) = List.replicate k .del ++ compU l [] B
  | 0 => rfl
  | k + 1 => by
    rw [List.replicate_succ]
    show compU l [] (.del :: (List.replicate k .del ++ B)) = _
    rw [compU_nd, comp_nildel l B k]; rfl
end Go.Proofs.YtnppoifgfehpfaaGreatDoor
/- What holds from round to round of compose.Compose. Plain mathematics. -/
namespace Go.Proofs.YtnppoifgfehpfaaGreatDoor
set_option linter.unusedVariables false
set_option linter.unusedSimpArgs false

/-- what the units and the sizes are -/
structure CQ (l : List Ky) (T : List Un) (P : Nat) (X : List OpS) (a : Nat) (Y : List OpS) (c : Nat) (m : Mk) (us : List Un) (K : Nat) : Prop where
  told : Told m us
  b : MkB m K 64
  k : K + 2 * (X.length + Y.length) + insN (restU X a) + insN (restU Y c) ≤ P
  eq : us ++ compU l (restU X a) (restU Y c) = T
  gx : goodO l X
  gy : goodO l Y
theorem restU_nil : restU [] 0 = [] := rfl
theorem first_unit {x : OpS} {t : List OpS} {a : Nat} (h : isOp x.o) (ha : a < lenO x.o) (h2 : x.o.k ≠ 2) : ∃ v B, restU (x :: t) a = v :: B ∧ (v = .del ∨ ∃ q, v = .ret q) := by
  have hl := lenO_units h
  have e : units (osOf (x :: t)) = unitsO x.o ++ units (osOf t) := rfl
  unfold restU
  rw [e, List.drop_append_of_le_length (by omega)]
  have hr : ∃ u : Un, (u = .del ∨ ∃ q, u = .ret q) ∧ unitsO x.o = List.replicate (lenO x.o) u := by
    rcases isOp_kind h with hk | hk | hk
    · exact absurd hk h2
    · exact ⟨.del, .inl rfl, by rw [← hl]; unfold unitsO; rw [if_neg (by rw [hk]; decide), if_neg (by rw [hk]; decide), List.length_replicate]⟩
    · exact ⟨.ret x.o.p, .inr ⟨_, rfl⟩, by rw [← hl]; unfold unitsO; rw [if_neg (by rw [hk]; decide), if_pos hk, List.length_replicate]⟩
  obtain ⟨u, hu, hr⟩ := hr
  rw [hr, List.drop_replicate]
  obtain ⟨q, hq⟩ : ∃ q, lenO x.o - a = q + 1 := ⟨lenO x.o - a - 1, by omega⟩
  rw [hq, List.replicate_succ]
  exact ⟨u, _, rfl, hu⟩
theorem unitsO_two {o : Opd} (h : o.k = 2) : unitsO o = o.r.map (fun r => Un.ins r o.s) := by unfold unitsO; rw [if_pos h]
theorem unitsO_del {o : Opd} (h : o.k = 3) : unitsO o = List.replicate (unitsO o).length .del := by
  have e : unitsO o = List.replicate o.n.toNat .del := by unfold unitsO; rw [if_neg (by rw [h]; decide), if_neg (by rw [h]; decide)]
  rw [e, List.length_replicate]
theorem unitsO_ret {o : Opd} (h : o.k = 1) : unitsO o = List.replicate (unitsO o).length (.ret o.p) := by
  have e : unitsO o = List.replicate o.n.toNat (.ret o.p) := by unfold unitsO; rw [if_neg (by rw [h]; decide), if_pos h]
  rw [e, List.length_replicate]
theorem insN_dels (k : Nat) : insN (List.replicate k .del) = 0 := by
  induction k with
  | zero => rfl
  | succ k ih => rw [List.replicate_succ]; exact ih
theorem insN_rets (k : Nat) (p : List Ch) : insN (List.replicate k (.ret p)) = 0 := by
  induction k with
  | zero => rfl
  | succ k ih => rw [List.replicate_succ]; exact ih
theorem tellO_any {m : Mk} {us : List Un} (h : Told m us) {o : Opd} (ho : isOp o) (hb : us.length + (unitsO o).length ≤ 4611686018427387904) : Told (tellO m o) (us ++ unitsO o) := by
  have hl := lenO_units ho
  obtain ⟨_, h1⟩ := lenO_of ho
  have hn : o.n ≤ (unitsO o).length := by
    rw [hl, h1]
    unfold sizeO
    rcases isOp_kind ho with hk | hk | hk
    · rw [if_pos hk]; obtain ⟨e, _⟩ := opI_of ho hk; rw [e]; show (0 : Int) ≤ _; omega
    · rw [if_neg (by rw [hk]; decide)]; exact Int.le_refl _
    · rw [if_neg (by rw [hk]; decide)]; exact Int.le_refl _
  exact tellO_told h ho (by omega) (by omega)
/-- an op taken from a list that is left no longer than before -/
theorem took_len {x : OpS} {t X' : List OpS} {a n a' : Nat} {o : Opd} (h : tookV (x :: t) a n o X' a') : X'.length ≤ (x :: t).length ∧ (lenO x.o - a ≤ n → a < lenO x.o → X'.length + 1 = (x :: t).length) ∧ (∀ z ∈ X', z ∈ x :: t) := by
  obtain ⟨h1, h2⟩ := h
  rcases h2 with ⟨h3, rfl, rfl⟩ | ⟨h3, rfl, rfl⟩
  · exact ⟨by simp, fun _ _ => by simp, fun z hz => List.mem_cons_of_mem _ hz⟩
  · exact ⟨Nat.le_refl _, fun h4 h5 => by omega, fun z hz => hz⟩
/-- the over reader's insert -/
theorem CQ.ins {l : List Ky} {T : List Un} {P : Nat} {X : List OpS} {a : Nat} {y : OpS} {t Y' : List OpS} {c c' : Nat} {m : Mk} {us : List Un} {K : Nat} {o : Opd} (h : CQ l T P X a (y :: t) c m us K) (hy : isOp y.o) (hc : c < lenO y.o) (hl : lenO y.o ≤ 536870912) (hk : y.o.k = 2) (ht : tookV (y :: t) c 536870912 o Y' c') (hT : T.length ≤ 4000000000) :
    CQ l T P X a Y' c' (tellO m o) (us ++ unitsO o) (K + o.r.length) ∧ Y'.length + 1 = (y :: t).length ∧ o.r.length ≤ P ∧ o.s.length ≤ 64 ∧ o.p.length ≤ 64 := by
  obtain ⟨g1, g2, g3, g4, g5, g6⟩ := took_units hy hc (by omega) ht
  obtain ⟨k1, k2, k3⟩ := took_len ht
  have hk2 : o.k = 2 := g4.trans hk
  have hlen := k2 (by omega) hc
  have e1 := unitsO_two hk2
  have heq := h.eq
  rw [g1, e1, comp_ins, ← e1, ← List.append_assoc] at heq
  have hk := h.k
  rw [g1, insN_append, e1, insN_ins] at hk
  have hm : tellO m o = mkInsert m o.r o.s := by unfold tellO; rw [if_neg (by rw [hk2]; decide), if_pos hk2]
  have hll := congrArg List.length heq
  rw [List.length_append, List.length_append] at hll
  have fy := one_facts (h.gy y (by simp))
  refine ⟨⟨tellO_any h.told g2 (by omega), ?_, by rw [List.length_cons] at *; omega, heq, h.gx, fun z hz => h.gy z (k3 z hz)⟩, hlen, by omega, by rw [g5]; exact (mayS_zero fy.2.2.2.1).1, by rw [g6]; exact (mayP_zero fy.2.2.2.2).1⟩
  rw [hm]
  exact h.b.insert o.r (by rw [g5]; exact (mayS_zero (one_facts (h.gy y (by simp))).2.2.2.1).1)
/-- the under reader's delete -/
theorem CQ.del {l : List Ky} {T : List Un} {P : Nat} {x y : OpS} {s t X' : List OpS} {a c a' : Nat} {m : Mk} {us : List Un} {K : Nat} {o : Opd} (h : CQ l T P (x :: s) a (y :: t) c m us K) (hx : isOp x.o) (hy : isOp y.o) (ha : a < lenO x.o) (hc : c < lenO y.o) (hl : lenO x.o ≤ 536870912) (hk : x.o.k = 3) (hk2 : y.o.k ≠ 2)
    (ht : tookV (x :: s) a 536870912 o X' a') (hT : T.length ≤ 4000000000) : CQ l T P X' a' (y :: t) c (tellO m o) (us ++ unitsO o) K ∧ X'.length + 1 = (x :: s).length ∧ o.r.length ≤ P ∧ o.s.length ≤ 64 ∧ o.p.length ≤ 64 := by
  obtain ⟨g1, g2, g3, g4, g5, g6⟩ := took_units hx ha (by omega) ht
  obtain ⟨k1, k2, k3⟩ := took_len ht
  have hk3 : o.k = 3 := g4.trans hk
  have fx := one_facts (h.gx x (by simp))
  have hlen := k2 (by omega) ha
  have e1 := unitsO_del hk3
  obtain ⟨v, B, hv, hvv⟩ := first_unit (t := t) hy hc hk2
  have heq := h.eq
  rw [g1, hv, e1, comp_del l _ _ v hvv, ← e1, ← hv, ← List.append_assoc] at heq
  have hkk := h.k
  rw [g1, insN_append] at hkk
  have hm : tellO m o = mkDelete m o.n := by unfold tellO; rw [if_neg (by rw [hk3]; decide), if_neg (by rw [hk3]; decide)]
  have hll := congrArg List.length heq
  rw [List.length_append, List.length_append] at hll
  refine ⟨⟨tellO_any h.told g2 (by omega), ?_, by rw [List.length_cons (a := x)] at *; omega, heq, fun z hz => h.gx z (k3 z hz), h.gy⟩, hlen, by rw [show o.r = [] by obtain ⟨e, _⟩ := opD_of g2 hk3; rw [e]; rfl]; exact Nat.zero_le _, by rw [g5]; exact (mayS_zero fx.2.2.2.1).1, by rw [g6]; exact (mayP_zero fx.2.2.2.2).1⟩
  rw [hm]
  exact h.b.delete o.n
/-- the under reader told to its end -/
theorem CQ.rest {l : List Ky} {T : List Un} {P : Nat} {x : OpS} {s X' : List OpS} {a a' : Nat} {m : Mk} {us : List Un} {K : Nat} {o : Opd} (h : CQ l T P (x :: s) a [] 0 m us K) (hx : isOp x.o) (ha : a < lenO x.o) (hl : lenO x.o ≤ 536870912)
    (ht : tookV (x :: s) a 536870912 o X' a') (hT : T.length ≤ 4000000000) : CQ l T P X' a' [] 0 (tellO m o) (us ++ unitsO o) (K + 2 + o.r.length) ∧ X'.length + 1 = (x :: s).length ∧ o.r.length ≤ P ∧ o.s.length ≤ 64 ∧ o.p.length ≤ 64 := by
  obtain ⟨g1, g2, g3, g4, g5, g6⟩ := took_units hx ha (by omega) ht
  obtain ⟨k1, k2, k3⟩ := took_len ht
  have hlen := k2 (by omega) ha
  have heq := h.eq
  rw [restU_nil, compU_nil, g1, ← List.append_assoc] at heq
  have hkk := h.k
  rw [g1, insN_append] at hkk
  have hll := congrArg List.length heq
  rw [List.length_append, List.length_append] at hll
  have hr : o.r.length ≤ insN (unitsO o) := by
    rcases isOp_kind g2 with hk | hk | hk
    · rw [unitsO_two hk, insN_ins]; exact Nat.le_refl _
    · obtain ⟨e, _⟩ := opD_of g2 hk; rw [e]; exact Nat.zero_le _
    · obtain ⟨e, _⟩ := opR_of g2 hk; rw [e]; exact Nat.zero_le _
  have ho := one_facts (h.gx x (by simp))
  refine ⟨⟨tellO_any h.told g2 (by omega), ?_, by rw [List.length_cons] at *; omega, by rw [restU_nil, compU_nil]; exact heq, fun z hz => h.gx z (k3 z hz), h.gy⟩, hlen, by omega, by rw [g5]; exact (mayS_zero ho.2.2.2.1).1, by rw [g6]; exact (mayP_zero ho.2.2.2.2).1⟩
  rcases isOp_kind g2 with hk | hk | hk
  · have hm : tellO m o = mkInsert m o.r o.s := by unfold tellO; rw [if_neg (by rw [hk]; decide), if_pos hk]
    rw [hm]
    exact (h.b.insert o.r (by rw [g5]; exact (mayS_zero ho.2.2.2.1).1)).mono (by omega) (Nat.le_refl _)
  · have hm : tellO m o = mkDelete m o.n := by unfold tellO; rw [if_neg (by rw [hk]; decide), if_neg (by rw [hk]; decide)]
    rw [hm]
    exact (h.b.delete o.n).mono (by omega) (Nat.le_refl _)
  · have hm : tellO m o = mkRetain m o.n o.p := by unfold tellO; rw [if_pos hk]
    rw [hm]
    exact (h.b.retain o.n (by rw [g6]; exact (mayP_zero ho.2.2.2.2).1)).mono (by omega) (Nat.le_refl _)
/-- a retain or delete of the over reader on what the under reader makes -/
theorem CQ.both {l : List Ky} (hl : l.length ≤ 64) {T : List Un} {P : Nat} {X : List OpS} {y : OpS} {t X' Y' : List OpS} {a c a' c' n : Nat} {m : Mk} {us : List Un} {K : Nat} {o q : Opd} (h : CQ l T P X a (y :: t) c m us K)
    (h0 : X = [] → a = 0) (hx : ∀ x s, X = x :: s → isOp x.o ∧ a < lenO x.o ∧ lenO x.o ≤ 536870912 ∧ x.o.k ≠ 3) (hy : isOp y.o) (hc : c < lenO y.o) (hly : lenO y.o ≤ 536870912) (hky : y.o.k ≠ 2) (hn : n = min (longR X a) (lenO y.o - c))
    (tx : tookV X a n o X' a') (ty : tookV (y :: t) c n q Y' c') (hT : T.length ≤ 4000000000) :
    (∃ us' K', CQ l T P X' a' Y' c' (bothM l m o q) us' K' ∧ X'.length + Y'.length < X.length + (y :: t).length) ∧ (o.k = 1 ∨ o.k = 2) ∧ K + o.r.length ≤ P ∧ o.s.length ≤ 64 ∧ o.p.length ≤ 64 ∧ q.p.length ≤ 64 ∧ (composeP o.p q.p).length ≤ 64 ∧ ∀ x ∈ o.r, (actC l ⟨x, o.s⟩ q.p).s.length ≤ 64 := by
  have hn1 : 1 ≤ n := by
    cases X with
    | nil => rw [hn]; show 1 ≤ min 536870912 _; omega
    | cons x s => obtain ⟨_, h2, _⟩ := hx x s rfl; rw [hn]; show 1 ≤ min (lenO x.o - a) _; omega
  obtain ⟨y1, y2, y3, y4, y5, y6⟩ := took_units hy hc hn1 ty
  obtain ⟨ly1, ly2, ly3⟩ := took_len ty
  have fy := one_facts (h.gy y (by simp))
  have hyl : (unitsO q).length = n := by rw [y3, hn]; omega
  have hqk : q.k = 1 ∨ q.k = 3 := by
    rw [y4]
    rcases isOp_kind hy with hk | hk | hk
    · exact absurd hk hky
    · exact .inr hk
    · exact .inl hk
  have mq : mayP l q.p = 0 := by rw [y6]; exact fy.2.2.2.2
  have mqc := mayP_zero mq
  -- what the under reader gave
  have key : (restU X a = unitsO o ++ restU X' a' ∨ (X = [] ∧ X' = [] ∧ a' = 0 ∧ o = opR n [])) ∧ isOp o ∧ (unitsO o).length = n ∧ (o.k = 1 ∨ o.k = 2) ∧ mayP l o.p = 0 ∧ (∀ x ∈ o.r, mayR x = true) ∧ (mayS l o.s = 0) ∧ X'.length ≤ X.length ∧ (n = longR X a → X ≠ [] → X'.length + 1 = X.length) ∧ goodO l X' := by
    cases X with
    | nil =>
      obtain ⟨e1, e2, e3⟩ := tx
      subst e1 e2 e3
      refine ⟨.inr ⟨rfl, rfl, rfl, rfl⟩, isOp_opR (by omega), by rw [unitsO_R, List.length_replicate]; omega, .inl rfl, (by simp [opR, mayP, riseC, rise]), fun x hx => (by cases hx), (by simp [opR, mayS, riseA, rise]), Nat.le_refl _, fun _ hh => absurd rfl hh, fun z hz => (by cases hz)⟩
    | cons x s =>
      obtain ⟨x0, x1, x2, x3⟩ := hx x s rfl
      obtain ⟨g1, g2, g3, g4, g5, g6⟩ := took_units x0 x1 hn1 tx
      obtain ⟨k1, k2, k3⟩ := took_len tx
      have fx := one_facts (h.gx x (by simp))
      have hnl : n ≤ lenO x.o - a := by rw [hn]; exact Nat.min_le_left _ _
      refine ⟨.inl g1, g2, by rw [g3]; omega, ?_, by rw [g6]; exact fx.2.2.2.2, ?_, by rw [g5]; exact fx.2.2.2.1, k1, fun hh _ => k2 (by rw [hh]; exact Nat.le_refl _) x1, fun z hz => h.gx z (k3 z hz)⟩
      · rw [g4]
        rcases isOp_kind x0 with hk | hk | hk
        · exact .inr hk
        · exact absurd hk x3
        · exact .inl hk
      · intro r hr
        have hk2 : x.o.k = 2 := by
          rcases isOp_kind g2 with hk | hk | hk
          · rw [← g4]; exact hk
          · obtain ⟨e, _⟩ := opD_of g2 hk; rw [e] at hr; cases hr
          · obtain ⟨e, _⟩ := opR_of g2 hk; rw [e] at hr; cases hr
        refine runes_of (h.gx x (by simp)) hk2 r ?_
        have e := tx.1
        rw [e] at hr
        unfold cutO at hr
        rw [if_pos hk2] at hr
        exact List.mem_of_mem_drop (List.mem_of_mem_take hr)
  obtain ⟨hX, ho, hol, hok, mo, mr, ms, xl, xd, gx'⟩ := key
  have moc := mayP_zero mo
  have hset : ∀ x ∈ o.r, (actC l ⟨x, o.s⟩ q.p).s.length ≤ 64 := fun x hx => (mayS_zero (stay_apply hl ms (stay_filter _ mq))).1
  have hcl : (composeP o.p q.p).length ≤ 64 := (mayP_zero (stay_comp hl mo mq)).1
  have hdec : X'.length + Y'.length < X.length + (y :: t).length := by
    rcases Nat.le_total (longR X a) (lenO y.o - c) with hle | hle
    · have hnx : n = longR X a := by rw [hn]; exact Nat.min_eq_left hle
      by_cases hXn : X = []
      · have : n = lenO y.o - c := by
          subst hXn
          have : longR [] a = 536870912 := rfl
          rw [this] at hle hnx; omega
        have := ly2 (by omega) hc
        omega
      · have := xd hnx hXn
        omega
    · have hny : n = lenO y.o - c := by rw [hn]; exact Nat.min_eq_right hle
      have := ly2 (by omega) hc
      omega
  have gy' : goodO l Y' := fun z hz => h.gy z (ly3 z hz)
  have heq := h.eq
  have hk := h.k
  rw [y1, insN_append] at hk
  rw [y1] at heq
  -- the units told
  have main : ∃ W K', Told (bothM l m o q) (us ++ W) ∧ MkB (bothM l m o q) K' 64 ∧ us ++ W ++ compU l (restU X' a') (restU Y' c') = T ∧ K' + 2 * (X'.length + Y'.length) + insN (restU X' a') + insN (restU Y' c') ≤ P ∧ K + o.r.length ≤ P := by
    have hXr : ∀ W, (compU l (restU X a) (unitsO q ++ restU Y' c') = W ++ compU l (restU X' a') (restU Y' c')) → us ++ W ++ compU l (restU X' a') (restU Y' c') = T := fun W hW => by
      rw [hW] at heq; rw [List.append_assoc]; exact heq
    have hulen : ∀ W, us ++ W ++ compU l (restU X' a') (restU Y' c') = T → us.length + W.length ≤ T.length := fun W hW => by
      have := congrArg List.length hW
      rw [List.length_append, List.length_append] at this; omega
    rcases hok with ok1 | ok2
    · have er := unitsO_ret ok1
      rw [hol] at er
      have hor : o.r = [] := by obtain ⟨e, _⟩ := opR_of ho ok1; rw [e]; rfl
      have hio : insN (unitsO o) = 0 := by rw [er]; exact insN_rets _ _
      have hkX : K + 2 * (X'.length + Y'.length) + 2 + insN (restU X' a') + insN (restU Y' c') ≤ P := by
        rcases hX with hX | ⟨rfl, rfl, rfl, _⟩
        · rw [hX, insN_append] at hk; omega
        · have e0 := h0 rfl
          subst e0
          rw [restU_nil] at hk ⊢
          omega
      rcases hqk with q1 | q3
      · have eq := unitsO_ret q1
        rw [hyl] at eq
        have hm : bothM l m o q = mkRetain m q.n (composeP o.p q.p) := by unfold bothM; rw [if_pos ok1, if_pos q1]
        have hW : compU l (restU X a) (unitsO q ++ restU Y' c') = List.replicate n (.ret (composeP o.p q.p)) ++ compU l (restU X' a') (restU Y' c') := by
          rcases hX with hX | ⟨rfl, rfl, rfl, rfl⟩
          · rw [hX, er, eq, comp_retret]
          · have e0 := h0 rfl
            subst e0
            rw [restU_nil, eq, comp_nilret]; rfl
        have hT2 := hXr _ hW
        have hl2 := hulen _ hT2
        rw [List.length_replicate] at hl2
        have hqn : q.n.toNat = n := by
          have := congrArg List.length (show unitsO q = List.replicate q.n.toNat (.ret q.p) by unfold unitsO; rw [if_neg (by rw [q1]; decide), if_pos q1])
          rw [hyl, List.length_replicate] at this; exact this.symm
        have hqn1 := (opR_of y2 q1).2
        refine ⟨_, K + 2, ?_, ?_, hT2, by omega, by rw [hor]; simp; omega⟩
        · rw [hm, ← hqn]
          exact h.told.retain q.n _ (by omega)
        · rw [hm]; exact h.b.retain q.n hcl
      · have eq := unitsO_del q3
        rw [hyl] at eq
        have hm : bothM l m o q = mkDelete m q.n := by unfold bothM; rw [if_pos ok1, if_neg (by rw [q3]; decide)]
        have hW : compU l (restU X a) (unitsO q ++ restU Y' c') = List.replicate n .del ++ compU l (restU X' a') (restU Y' c') := by
          rcases hX with hX | ⟨rfl, rfl, rfl, rfl⟩
          · rw [hX, er, eq, comp_retdel]
          · have e0 := h0 rfl
            subst e0
            rw [restU_nil, eq, comp_nildel]
        have hT2 := hXr _ hW
        have hl2 := hulen _ hT2
        rw [List.length_replicate] at hl2
        have hqn : q.n.toNat = n := by
          have := congrArg List.length (show unitsO q = List.replicate q.n.toNat .del by unfold unitsO; rw [if_neg (by rw [q3]; decide), if_neg (by rw [q3]; decide)])
          rw [hyl, List.length_replicate] at this; exact this.symm
        have hqn1 := (opD_of y2 q3).2
        refine ⟨_, K, ?_, ?_, hT2, by omega, by rw [hor]; simp; omega⟩
        · rw [hm, ← hqn]
          exact h.told.delete q.n (by omega) (by omega)
        · rw [hm]; exact h.b.delete q.n
    · have er := unitsO_two ok2
      have hol' : o.r.length = n := by rw [er, List.length_map] at hol; exact hol
      have hX' : restU X a = unitsO o ++ restU X' a' := by
        rcases hX with hX | ⟨_, _, _, rfl⟩
        · exact hX
        · exact absurd ok2 (by show ¬ (1 : Int) = 2; decide)
      rw [hX', insN_append, er, insN_ins] at hk
      rcases hqk with q1 | q3
      · have eq := unitsO_ret q1
        rw [hyl, ← hol'] at eq
        have hm : bothM l m o q = insM l o.s q.p m o.r := by unfold bothM; rw [if_neg (by rw [ok2]; decide), if_pos q1]
        have hW : compU l (restU X a) (unitsO q ++ restU Y' c') = o.r.map (fun x => Un.ins x (actC l ⟨x, o.s⟩ q.p).s) ++ compU l (restU X' a') (restU Y' c') := by
          rw [hX', er, eq, comp_insret]
        refine ⟨_, K + o.r.length, by rw [hm]; exact insM_told o.r h.told, by rw [hm]; exact insM_B o.r h.b hset, hXr _ hW, by omega, by omega⟩
      · have eq := unitsO_del q3
        rw [hyl, ← hol'] at eq
        have hm : bothM l m o q = m := by unfold bothM; rw [if_neg (by rw [ok2]; decide), if_neg (by rw [q3]; decide)]
        have hW : compU l (restU X a) (unitsO q ++ restU Y' c') = [] ++ compU l (restU X' a') (restU Y' c') := by
          rw [hX', er, eq, comp_gone]; rfl
        have := hXr _ hW
        refine ⟨[], K, by rw [hm, List.append_nil]; exact h.told, by rw [hm]; exact h.b, this, by omega, by omega⟩
  obtain ⟨W, K', m1, m2, m3, m4, m5⟩ := main
  exact ⟨⟨us ++ W, K', ⟨m1, m2, m4, m3, gx', gy'⟩, hdec⟩, hok, m5, (mayS_zero ms).1, moc.1, mqc.1, hcl, hset⟩
end Go.Proofs.YtnppoifgfehpfaaGreatDoor
