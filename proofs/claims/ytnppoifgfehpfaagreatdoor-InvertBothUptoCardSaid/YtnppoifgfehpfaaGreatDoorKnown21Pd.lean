/- The walk of rubriclaw21.known. Printed by wip/gen_known2.py. -/
import Derived.Test.YtnppoifgfehpfaaGreatDoorPk32
import Derived.Test.YtnppoifgfehpfaaGreatDoorPk28
namespace Go.Proofs.YtnppoifgfehpfaaGreatDoor
open Go.RowKit
set_option linter.unusedVariables false
set_option linter.unusedSimpArgs false

def xA21 (b0 : Nat) : List OpS := [⟨opI [99] [], some ⟨b0, 0, none⟩, 1, none, 0, none, 0⟩, ⟨opD 1, none, 0, none, 0, none, 0⟩]
def xB21 (b0 : Nat) : List OpS := [⟨opI [97] [], some ⟨b0, 0, none⟩, 1, none, 0, none, 0⟩, ⟨opD 1, none, 0, none, 0, none, 0⟩]
theorem a21_zero (b : Nat) : applyN kK19 (xA21 b) (clsOf dA19) 536870912 = 0 := by kernel_rfl
theorem a21_inv (b c : Nat) : mkU (invU kK19 (units (osOf (xA21 b))) (clsOf dA19)) = osOf (xB21 c) := by kernel_rfl

set_option maxRecDepth 100000 in
set_option maxHeartbeats 3200000 in
theorem known21_any (w : World) (hT : Lib.Utf8Tabs 1 2 w) :
    Calls Tryz.prog 16 #[] w fun e w' => e = .returned (.bool true) ∧ Below w.heap.size w w' := by
  go_enter Tryz.func16, Tryz.ntmps16
  go_wp2_with (go_at_call 17; refine Hid.out ?_)
  refine Lib.hid ?_
  have y := ext_alloc w (.cells #[.int .i64 1, .bool false, .int .u8 1, .bool false, .bool false, .int .i64 0] 84)
  have rk : RdKy _ _ _ kK19 := Rd.new (enc := Ky.enc) (size := 6) Ky.enc_len w 84 kK19 (cs := #[.int .i64 1, .bool false, .int .u8 1, .bool false, .bool false, .int .i64 0]) rfl rfl
  refine (new_any (some ⟨w.heap.size, 0, none⟩) 1 1 kK19 _ rfl rk (by omega)).mono ?_
  rintro e v1 ⟨y1, ⟨hm, s, rfl, hS⟩ | ⟨hm, rfl⟩⟩
  rotate_left
  · have : mayKs kK19 = true := by decide +kernel
    rw [this] at hm; cases hm
  clear hm rk
  replace y := ext_trans y y1
  clear y1
  go_wp2_with (go_at_call 18; refine Hid.out ?_)
  refine Lib.hid ?_
  have yu1 := ext_alloc v1 (.cells #[.int .i32 97, .slice none 0 0, .int .i32 98, .slice none 0 0, .int .i32 10, .slice none 0 0] 71)
  have ra : RdCs _ _ _ dA19 := Rd.new (enc := ClS.enc) (size := 2) ClS.enc_len v1 71 dA19 (cs := #[.int .i32 97, .slice none 0 0, .int .i32 98, .slice none 0 0, .int .i32 10, .slice none 0 0]) rfl rfl
  have zu1 : (v1.alloc (.cells #[.int .i32 97, .slice none 0 0, .int .i32 98, .slice none 0 0, .int .i32 10, .slice none 0 0] 71)).heap.size = v1.heap.size + 1 := by simp
  generalize v1.alloc (.cells #[.int .i32 97, .slice none 0 0, .int .i32 98, .slice none 0 0, .int .i32 10, .slice none 0 0] 71) = u1 at *
  have yu2 := ext_alloc u1 (.cells #[.int .i32 99] 21)
  have riu2 : RdI32 _ _ _ [99] := Rd.new (enc := encI32) (size := 1) encI32_len u1 21 [99] (cs := #[.int .i32 99]) rfl (b := v1.heap.size + 1) zu1.symm
  have zu2 : (u1.alloc (.cells #[.int .i32 99] 21)).heap.size = v1.heap.size + 2 := by rw [World.size_alloc, zu1]
  generalize u1.alloc (.cells #[.int .i32 99] 21) = u2 at *
  have yu3 := ext_alloc u2 (.cells #[.int .u8 2, .int .i64 0, .slice (some ⟨v1.heap.size + 1, 0, none⟩) 1 1, .slice none 0 0, .slice none 0 0, .int .u8 3, .int .i64 1, .slice none 0 0, .slice none 0 0, .slice none 0 0] 54)
  have rdxA21 := rd_ops u2 (xA21 (v1.heap.size + 1)) (fun z hz => by
    simp only [xA21, List.mem_cons, List.not_mem_nil, or_false] at hz
    rcases hz with rfl | rfl
    · exact ⟨riu2, Rd.nil, Rd.nil⟩
    · exact ⟨Rd.nil, Rd.nil, Rd.nil⟩) (cs := #[.int .u8 2, .int .i64 0, .slice (some ⟨v1.heap.size + 1, 0, none⟩) 1 1, .slice none 0 0, .slice none 0 0, .int .u8 3, .int .i64 1, .slice none 0 0, .slice none 0 0, .slice none 0 0]) rfl (b := v1.heap.size + 2) zu2.symm
  have zu3 : (u2.alloc (.cells #[.int .u8 2, .int .i64 0, .slice (some ⟨v1.heap.size + 1, 0, none⟩) 1 1, .slice none 0 0, .slice none 0 0, .int .u8 3, .int .i64 1, .slice none 0 0, .slice none 0 0, .slice none 0 0] 54)).heap.size = v1.heap.size + 3 := by rw [World.size_alloc, zu2]
  generalize u2.alloc (.cells #[.int .u8 2, .int .i64 0, .slice (some ⟨v1.heap.size + 1, 0, none⟩) 1 1, .slice none 0 0, .slice none 0 0, .int .u8 3, .int .i64 1, .slice none 0 0, .slice none 0 0, .slice none 0 0] 54) = u3 at *
  have atxA21 : OpsC u3 (some ⟨v1.heap.size + 2, 0, none⟩) 2 2 (xA21 (v1.heap.size + 1)) := ⟨⟨rdxA21, rfl, (fun z hz => by
    simp only [xA21, List.mem_cons, List.not_mem_nil, or_false] at hz
    rcases hz with rfl | rfl <;> exact ok_small _ rfl rfl (by simp [opR, opI, opD])), by omega⟩, Nat.le_refl _, by unfold maxLen; omega, (fun z hz => by
    simp only [xA21, List.mem_cons, List.not_mem_nil, or_false] at hz
    rcases hz with rfl | rfl <;> (unfold capO maxLen; simp [opR, opI, opD]))⟩
  have nA : ∀ x ∈ dA19, x.c.s = [] ∧ x.cs = 0 := fun x hx => by
    simp only [dA19, List.mem_cons, List.not_mem_nil, or_false] at hx
    rcases hx with rfl | rfl | rfl <;> exact ⟨rfl, rfl⟩
  have DA : DocAt u3 (some ⟨v1.heap.size, 0, none⟩) 3 3 dA19 := ⟨rdcl_nil19 (ra.ext (ext_trans yu2 yu3)) (fun x hx => (nA x hx).1), rfl, Nat.le_refl _, (fun x hx => by rw [(nA x hx).1, (nA x hx).2]; exact ⟨Nat.le_refl _, by unfold maxLen; omega⟩), (fun x hx => by rw [(nA x hx).1]; exact ⟨by simp, fun c hc => by cases hc⟩), by omega⟩
  have yq := ext_trans y (ext_trans yu1 (ext_trans yu2 yu3))
  have Y3 := Lib.hid yq
  have hS3 := hS.ext (ext_trans yu1 (ext_trans yu2 yu3))
  refine (invertOk_any s kK19 (some ⟨v1.heap.size, 0, none⟩) (some ⟨v1.heap.size + 2, 0, none⟩) 3 3 2 2 dA19 (xA21 (v1.heap.size + 1)) _ DA atxA21.at_ hS3 (by decide) (Utf8Tabs_below hT Y3.out) (a21_zero _)).mono ?_
  rintro e w5 ⟨A5, c5, x5, rfl, e5, o5, y5⟩
  have O_x5 := Lib.hid o5
  have O_E : Hid (osOf x5 = osOf (xB21 w5.heap.size)) := Lib.hid (e5.trans (a21_inv _ _))
  have Y5 := Lib.hid (ext_trans Y3.out y5)
  clear y5 o5 e5 DA nA yq hS3 hS y yu1 yu2 yu3 ra
  go_wp2_with (go_at_call 20; refine Hid.out ?_)
  refine Lib.hid ?_
  have yt1 := ext_alloc w5 (.cells #[.int .i32 97] 21)
  have rit1 : RdI32 _ _ _ [97] := Rd.new (enc := encI32) (size := 1) encI32_len w5 21 [97] (cs := #[.int .i32 97]) rfl rfl
  have zt1 : (w5.alloc (.cells #[.int .i32 97] 21)).heap.size = w5.heap.size + 1 := by simp
  generalize w5.alloc (.cells #[.int .i32 97] 21) = t1 at *
  have yt2 := ext_alloc t1 (.cells #[.int .u8 2, .int .i64 0, .slice (some ⟨w5.heap.size, 0, none⟩) 1 1, .slice none 0 0, .slice none 0 0, .int .u8 3, .int .i64 1, .slice none 0 0, .slice none 0 0, .slice none 0 0] 54)
  have rdxB21 := rd_ops t1 (xB21 (w5.heap.size)) (fun z hz => by
    simp only [xB21, List.mem_cons, List.not_mem_nil, or_false] at hz
    rcases hz with rfl | rfl
    · exact ⟨rit1, Rd.nil, Rd.nil⟩
    · exact ⟨Rd.nil, Rd.nil, Rd.nil⟩) (cs := #[.int .u8 2, .int .i64 0, .slice (some ⟨w5.heap.size, 0, none⟩) 1 1, .slice none 0 0, .slice none 0 0, .int .u8 3, .int .i64 1, .slice none 0 0, .slice none 0 0, .slice none 0 0]) rfl (b := w5.heap.size + 1) zt1.symm
  have zt2 : (t1.alloc (.cells #[.int .u8 2, .int .i64 0, .slice (some ⟨w5.heap.size, 0, none⟩) 1 1, .slice none 0 0, .slice none 0 0, .int .u8 3, .int .i64 1, .slice none 0 0, .slice none 0 0, .slice none 0 0] 54)).heap.size = w5.heap.size + 2 := by rw [World.size_alloc, zt1]
  generalize t1.alloc (.cells #[.int .u8 2, .int .i64 0, .slice (some ⟨w5.heap.size, 0, none⟩) 1 1, .slice none 0 0, .slice none 0 0, .int .u8 3, .int .i64 1, .slice none 0 0, .slice none 0 0, .slice none 0 0] 54) = t2 at *
  have atxB21 : OpsC t2 (some ⟨w5.heap.size + 1, 0, none⟩) 2 2 (xB21 (w5.heap.size)) := ⟨⟨rdxB21, rfl, (fun z hz => by
    simp only [xB21, List.mem_cons, List.not_mem_nil, or_false] at hz
    rcases hz with rfl | rfl <;> exact ok_small _ rfl rfl (by simp [opR, opI, opD])), by omega⟩, Nat.le_refl _, by unfold maxLen; omega, (fun z hz => by
    simp only [xB21, List.mem_cons, List.not_mem_nil, or_false] at hz
    rcases hz with rfl | rfl <;> (unfold capO maxLen; simp [opR, opI, opD]))⟩
  refine (same15D (O_x5.out.at_.ext (ext_trans yt1 yt2)) atxB21.at_ (decide_eq_true (O_E.out.trans (by rfl)))).mono ?_
  have yq := ext_trans Y5.out (ext_trans yt1 yt2)
  rintro e wz ⟨rfl, y9⟩
  have yy := ext_trans yq y9
  clear yq y9
  go_wp2_with (fail)
  go_ret
  exact ⟨rfl, yy⟩
end Go.Proofs.YtnppoifgfehpfaaGreatDoor
