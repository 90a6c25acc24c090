/- The walk of normal.Is, and normal forms at hand. -/
import Derived.Test.YtipoeidmblnbbaaGreatDoorPk32
import Derived.Test.YtipoeidmblnbbaaGreatDoorPk34
import Derived.Test.YtipoeidmblnbbaaGreatDoorPk26
namespace Go.Proofs.YtipoeidmblnbbaaGreatDoor
open Go.RowKit
set_option linter.unusedVariables false
set_option linter.unusedSimpArgs false

theorem szN_units {x : List OpS} (h : ∀ o ∈ x, isOp o.o) : szN x ≤ 2 * (units (osOf x)).length := by
  induction x with
  | nil => exact Nat.zero_le _
  | cons a x ih =>
    have h1 := unitsO_len (h a (by simp))
    have h2 := ih (fun o ho => h o (List.mem_cons_of_mem _ ho))
    have e : units (osOf (a :: x)) = unitsO a.o ++ units (osOf x) := rfl
    rw [szN_cons, e, List.length_append]; omega
/-- the sets and patches of ops made of units that may be are small -/
theorem mkU_small {l : List Ky} {x : List OpS} {us : List Un} (hx : osOf x = mkU us) (hm : ∀ u ∈ us, mU l u) : ∀ o ∈ x, o.o.s.length ≤ 64 ∧ o.o.p.length ≤ 64 := fun o ho => by
  have hop := mkU_isOp hx o ho
  have hn := nf_all (P := mU l) trivial hm
  rw [← mkU_units hx] at hn
  have hsub : ∀ u ∈ unitsO o.o, mU l u := fun u hu => hn u (units_mem.2 ⟨o, ho, hu⟩)
  rcases isOp_kind hop with hk | hk | hk
  · obtain ⟨e, hr⟩ := opI_of hop hk
    obtain ⟨r, hr⟩ := List.exists_mem_of_ne_nil _ hr
    have h1 : mU l (.ins r o.o.s) := hsub _ (by unfold unitsO; rw [if_pos hk]; exact List.mem_map.2 ⟨r, hr, rfl⟩)
    exact ⟨(mayS_zero h1.2).1, by rw [e]; exact Nat.zero_le _⟩
  · obtain ⟨e, hn⟩ := opD_of hop hk
    rw [e]; exact ⟨Nat.zero_le _, Nat.zero_le _⟩
  · obtain ⟨e, hn⟩ := opR_of hop hk
    obtain ⟨k, hk2⟩ : ∃ k, o.o.n.toNat = k + 1 := ⟨o.o.n.toNat - 1, by omega⟩
    have h1 : mU l (.ret o.o.p) := hsub _ (by unfold unitsO; rw [if_neg (by rw [hk]; decide), if_pos hk, hk2]; simp [List.replicate_succ])
    exact ⟨by rw [e]; exact Nat.zero_le _, (mayP_zero h1).1⟩
theorem sameO {w : World} {A B : Option Addr} {n c n2 c2 : Nat} {x z : List OpS} (h1 : OpsAt w A n x) (h2 : OpsAt w B n2 z) {b : Bool} (hb : decide (osOf x = osOf z) = b) :
    Calls Tryz.prog 64 #[.slice A n c, .slice B n2 c2] w fun e w' => e = .returned (.bool b) ∧ Below w.heap.size w w' := by
  have h := opsSame_any A B n n2 c c2 x z w h1.len h2.len h1.rd h2.rd (by have := h1.b; omega) (by have := h2.b; omega) (fun o ho => by obtain ⟨_, _, a, b, c⟩ := h1.ok o ho; omega) (fun o ho => by obtain ⟨_, _, a, b, c⟩ := h2.ok o ho; omega)
  rw [hb] at h
  exact h
/-- the normal form of ops at hand -/
theorem normDoc {w : World} {A : Option Addr} {n c : Nat} {x : List OpS} (h : OpsAt w A n x) (hi : ∀ o ∈ x, isOp o.o) (hz : szN x ≤ 400000) (hs : ∀ o ∈ x, o.o.s.length ≤ 1000000 ∧ o.o.p.length ≤ 1000000) (hl : (units (osOf x)).length ≤ 4000000000) :
    Calls Tryz.prog 31 #[.slice A n c] w (NewOp (mkU (units (osOf x))) w) := by
  have ht := ofM_told (osOf x) (fun o ho => by obtain ⟨z, hz, rfl⟩ := List.mem_map.1 ho; exact hi z hz) hl
  rw [← told_mkU ht]
  refine (normOfN_any A n c x w h.len h.rd (by omega) hs).mono fun e w' hN => hN.op ht (fun u hu => ?_) (ofM_bndN x hs) (by omega) (by omega)
  obtain ⟨o, ho, hu⟩ := units_mem.1 hu
  exact okUn_of (h.ok o ho) u hu
set_option maxHeartbeats 1600000 in
theorem normIs_any {w : World} {A : Option Addr} {n c : Nat} {x : List OpS} (h : OpsAt w A n x) (hi : ∀ o ∈ x, isOp o.o) (hz : szN x ≤ 400000) (hs : ∀ o ∈ x, o.o.s.length ≤ 1000000 ∧ o.o.p.length ≤ 1000000) (hl : (units (osOf x)).length ≤ 4000000000) {b : Bool} (hb : decide (mkU (units (osOf x)) = osOf x) = b) :
    Calls Tryz.prog 26 #[.slice A n c] w fun e w' => e = .returned (.bool b) ∧ Below w.heap.size w w' := by
  have H := Lib.hid h
  have HC := Lib.hid (normDoc (c := c) h hi hz hs hl)
  have HB := Lib.hid hb
  clear h hi hz hs hl hb
  go_enter Tryz.func26, Tryz.ntmps26
  go_wp2_with (go_at_call 31; refine Hid.out ?_)
  refine Lib.hid ?_
  refine HC.out.mono ?_
  rintro e w1 ⟨A2, c2, z, rfl, ez, oz, y⟩
  have OZ := Lib.hid oz
  have Y := Lib.hid y
  have EZ := Lib.hid ez
  clear oz y ez
  go_wp2_with (go_at_call 64; refine Hid.out ?_)
  refine Lib.hid ?_
  refine (sameO (b := b) OZ.out (H.out.ext Y.out) (by rw [EZ.out]; exact HB.out)).mono ?_
  rintro e w2 ⟨rfl, y2⟩
  have Y2 := Lib.hid (ext_trans Y.out y2)
  clear y2
  go_wp2_with (fail)
  go_ret
  exact ⟨rfl, Y2.out⟩
/-- ops that a maker has made are normal -/
theorem isNormal {w : World} {A : Option Addr} {n c : Nat} {x : List OpS} {us : List Un} (h : OpsAt w A n x) (hx : osOf x = mkU us) (hu : us.length ≤ 200000) {l : List Ky} (hm : ∀ u ∈ us, mU l u) :
    Calls Tryz.prog 26 #[.slice A n c] w fun e w' => e = .returned (.bool true) ∧ Below w.heap.size w w' := by
  have hi := mkU_isOp hx
  have hn := nf_len us
  have hl := szN_units hi
  rw [mkU_units hx] at hl
  refine normIs_any h hi (by omega) (fun o ho => by have := mkU_small hx hm o ho; omega) (by rw [mkU_units hx]; omega) (decide_eq_true ?_)
  rw [mkU_units hx, mkU_nf, hx]
end Go.Proofs.YtipoeidmblnbbaaGreatDoor
