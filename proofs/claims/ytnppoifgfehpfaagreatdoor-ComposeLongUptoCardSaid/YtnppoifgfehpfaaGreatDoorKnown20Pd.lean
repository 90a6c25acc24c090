/- The walk of rubriclaw20.known. Printed by wip/gen_known2.py. -/
import Derived.Test.YtnppoifgfehpfaaGreatDoorPk32
import Derived.Test.YtnppoifgfehpfaaGreatDoorPk35
namespace Go.Proofs.YtnppoifgfehpfaaGreatDoor
open Go.RowKit
set_option linter.unusedVariables false
set_option linter.unusedSimpArgs false

def xA20 (b0 : Nat) : List OpS := [⟨opI [97, 98] [], some ⟨b0, 0, none⟩, 2, none, 0, none, 0⟩]
def xB20 (b0 : Nat) : List OpS := [⟨opR 1 [], none, 0, none, 0, none, 0⟩, ⟨opI [99] [], some ⟨b0, 0, none⟩, 1, none, 0, none, 0⟩, ⟨opD 1, none, 0, none, 0, none, 0⟩]
def xC20 (b0 : Nat) : List OpS := [⟨opI [97, 99] [], some ⟨b0, 0, none⟩, 2, none, 0, none, 0⟩]
theorem a20_may (b : Nat) : mayO kK19 (xA20 b) = 0 := by kernel_rfl
theorem b20_may (b : Nat) : mayO kK19 (xB20 b) = 0 := by kernel_rfl
theorem a20_comp (b c d : Nat) : mkU (compU kK19 (units (osOf (xA20 b))) (units (osOf (xB20 c)))) = osOf (xC20 d) := by kernel_rfl
theorem a20_size (b c : Nat) : takesU (compU kK19 (units (osOf (xA20 b))) (units (osOf (xB20 c)))) = 0 ∧ makesU (compU kK19 (units (osOf (xA20 b))) (units (osOf (xB20 c)))) = 2 := ⟨by kernel_rfl, by kernel_rfl⟩

set_option maxRecDepth 100000 in
set_option maxHeartbeats 3200000 in
theorem known20_any (w : World) (hT : Lib.Utf8Tabs 1 2 w) :
    Calls Tryz.prog 27 #[] w fun e w' => e = .returned (.bool true) ∧ Below w.heap.size w w' := by
  go_enter Tryz.func27, Tryz.ntmps27
  go_wp2_with (go_at_call 17; refine Hid.out ?_)
  refine Lib.hid ?_
  have y := ext_alloc w (.cells #[.int .i64 1, .bool false, .int .u8 1, .bool false, .bool false, .int .i64 0] 84)
  have rk : RdKy _ _ _ kK19 := Rd.new (enc := Ky.enc) (size := 6) Ky.enc_len w 84 kK19 (cs := #[.int .i64 1, .bool false, .int .u8 1, .bool false, .bool false, .int .i64 0]) rfl rfl
  refine (new_any (some ⟨w.heap.size, 0, none⟩) 1 1 kK19 _ rfl rk (by omega)).mono ?_
  rintro e v1 ⟨y1, ⟨hm, s, rfl, hS⟩ | ⟨hm, rfl⟩⟩
  rotate_left
  · have : mayKs kK19 = true := by decide +kernel
    rw [this] at hm; cases hm
  clear hm rk
  replace y := ext_trans y y1
  clear y1
  go_wp2_with (go_at_call 24; refine Hid.out ?_)
  refine Lib.hid ?_
  have yu1 := ext_alloc v1 (.cells #[.int .i32 97, .int .i32 98] 21)
  have riu1 : RdI32 _ _ _ [97, 98] := Rd.new (enc := encI32) (size := 1) encI32_len v1 21 [97, 98] (cs := #[.int .i32 97, .int .i32 98]) rfl rfl
  have zu1 : (v1.alloc (.cells #[.int .i32 97, .int .i32 98] 21)).heap.size = v1.heap.size + 1 := by simp
  generalize v1.alloc (.cells #[.int .i32 97, .int .i32 98] 21) = u1 at *
  have yu2 := ext_alloc u1 (.cells #[.int .u8 2, .int .i64 0, .slice (some ⟨v1.heap.size, 0, none⟩) 2 2, .slice none 0 0, .slice none 0 0] 54)
  have rdxA20 := rd_ops u1 (xA20 (v1.heap.size)) (fun z hz => by
    simp only [xA20, List.mem_cons, List.not_mem_nil, or_false] at hz
    subst hz
    exact ⟨riu1, Rd.nil, Rd.nil⟩) (cs := #[.int .u8 2, .int .i64 0, .slice (some ⟨v1.heap.size, 0, none⟩) 2 2, .slice none 0 0, .slice none 0 0]) rfl (b := v1.heap.size + 1) zu1.symm
  have zu2 : (u1.alloc (.cells #[.int .u8 2, .int .i64 0, .slice (some ⟨v1.heap.size, 0, none⟩) 2 2, .slice none 0 0, .slice none 0 0] 54)).heap.size = v1.heap.size + 2 := by rw [World.size_alloc, zu1]
  generalize u1.alloc (.cells #[.int .u8 2, .int .i64 0, .slice (some ⟨v1.heap.size, 0, none⟩) 2 2, .slice none 0 0, .slice none 0 0] 54) = u2 at *
  have atxA20 : OpsC u2 (some ⟨v1.heap.size + 1, 0, none⟩) 1 1 (xA20 (v1.heap.size)) := ⟨⟨rdxA20, rfl, (fun z hz => by
    simp only [xA20, List.mem_cons, List.not_mem_nil, or_false] at hz
    subst hz; exact ok_small _ rfl rfl (by simp [opR, opI, opD])), by omega⟩, Nat.le_refl _, by unfold maxLen; omega, (fun z hz => by
    simp only [xA20, List.mem_cons, List.not_mem_nil, or_false] at hz
    subst hz; (unfold capO maxLen; simp [opR, opI, opD]))⟩
  have yu3 := ext_alloc u2 (.cells #[.int .i32 99] 21)
  have riu3 : RdI32 _ _ _ [99] := Rd.new (enc := encI32) (size := 1) encI32_len u2 21 [99] (cs := #[.int .i32 99]) rfl (b := v1.heap.size + 2) zu2.symm
  have zu3 : (u2.alloc (.cells #[.int .i32 99] 21)).heap.size = v1.heap.size + 3 := by rw [World.size_alloc, zu2]
  generalize u2.alloc (.cells #[.int .i32 99] 21) = u3 at *
  have yu4 := ext_alloc u3 (.cells #[.int .u8 1, .int .i64 1, .slice none 0 0, .slice none 0 0, .slice none 0 0, .int .u8 2, .int .i64 0, .slice (some ⟨v1.heap.size + 2, 0, none⟩) 1 1, .slice none 0 0, .slice none 0 0, .int .u8 3, .int .i64 1, .slice none 0 0, .slice none 0 0, .slice none 0 0] 54)
  have rdxB20 := rd_ops u3 (xB20 (v1.heap.size + 2)) (fun z hz => by
    simp only [xB20, List.mem_cons, List.not_mem_nil, or_false] at hz
    rcases hz with rfl | rfl | rfl
    · exact ⟨Rd.nil, Rd.nil, Rd.nil⟩
    · exact ⟨riu3, Rd.nil, Rd.nil⟩
    · exact ⟨Rd.nil, Rd.nil, Rd.nil⟩) (cs := #[.int .u8 1, .int .i64 1, .slice none 0 0, .slice none 0 0, .slice none 0 0, .int .u8 2, .int .i64 0, .slice (some ⟨v1.heap.size + 2, 0, none⟩) 1 1, .slice none 0 0, .slice none 0 0, .int .u8 3, .int .i64 1, .slice none 0 0, .slice none 0 0, .slice none 0 0]) rfl (b := v1.heap.size + 3) zu3.symm
  have zu4 : (u3.alloc (.cells #[.int .u8 1, .int .i64 1, .slice none 0 0, .slice none 0 0, .slice none 0 0, .int .u8 2, .int .i64 0, .slice (some ⟨v1.heap.size + 2, 0, none⟩) 1 1, .slice none 0 0, .slice none 0 0, .int .u8 3, .int .i64 1, .slice none 0 0, .slice none 0 0, .slice none 0 0] 54)).heap.size = v1.heap.size + 4 := by rw [World.size_alloc, zu3]
  generalize u3.alloc (.cells #[.int .u8 1, .int .i64 1, .slice none 0 0, .slice none 0 0, .slice none 0 0, .int .u8 2, .int .i64 0, .slice (some ⟨v1.heap.size + 2, 0, none⟩) 1 1, .slice none 0 0, .slice none 0 0, .int .u8 3, .int .i64 1, .slice none 0 0, .slice none 0 0, .slice none 0 0] 54) = u4 at *
  have atxB20 : OpsC u4 (some ⟨v1.heap.size + 3, 0, none⟩) 3 3 (xB20 (v1.heap.size + 2)) := ⟨⟨rdxB20, rfl, (fun z hz => by
    simp only [xB20, List.mem_cons, List.not_mem_nil, or_false] at hz
    rcases hz with rfl | rfl | rfl <;> exact ok_small _ rfl rfl (by simp [opR, opI, opD])), by omega⟩, Nat.le_refl _, by unfold maxLen; omega, (fun z hz => by
    simp only [xB20, List.mem_cons, List.not_mem_nil, or_false] at hz
    rcases hz with rfl | rfl | rfl <;> (unfold capO maxLen; simp [opR, opI, opD]))⟩
  have yq := ext_trans y (ext_trans yu1 (ext_trans yu2 (ext_trans yu3 yu4)))
  have Y3 := Lib.hid yq
  have hS3 := hS.ext (ext_trans yu1 (ext_trans yu2 (ext_trans yu3 yu4)))
  refine (composeOk_any s kK19 (some ⟨v1.heap.size + 1, 0, none⟩) (some ⟨v1.heap.size + 3, 0, none⟩) 1 1 3 3 (xA20 (v1.heap.size)) (xB20 (v1.heap.size + 2)) _ (atxA20.ext (ext_trans yu3 yu4)) atxB20 hS3 (by decide) (Utf8Tabs_below hT Y3.out) (a20_may _) (b20_may _) (by show 3 ≤ _; omega) (by show 4 ≤ _; omega) (by rw [(a20_size _ _).1]; omega) (by rw [(a20_size _ _).2]; omega)).mono ?_
  rintro e w5 ⟨A5, c5, x5, rfl, e5, o5, y5⟩
  have O_x5 := Lib.hid o5
  have O_E : Hid (osOf x5 = osOf (xC20 w5.heap.size)) := Lib.hid (e5.trans (a20_comp _ _ _))
  have Y5 := Lib.hid (ext_trans Y3.out y5)
  clear y5 o5 e5 yq hS3 hS y yu1 yu2 yu3 yu4
  go_wp2_with (go_at_call 20; refine Hid.out ?_)
  refine Lib.hid ?_
  have yt1 := ext_alloc w5 (.cells #[.int .i32 97, .int .i32 99] 21)
  have rit1 : RdI32 _ _ _ [97, 99] := Rd.new (enc := encI32) (size := 1) encI32_len w5 21 [97, 99] (cs := #[.int .i32 97, .int .i32 99]) rfl rfl
  have zt1 : (w5.alloc (.cells #[.int .i32 97, .int .i32 99] 21)).heap.size = w5.heap.size + 1 := by simp
  generalize w5.alloc (.cells #[.int .i32 97, .int .i32 99] 21) = t1 at *
  have yt2 := ext_alloc t1 (.cells #[.int .u8 2, .int .i64 0, .slice (some ⟨w5.heap.size, 0, none⟩) 2 2, .slice none 0 0, .slice none 0 0] 54)
  have rdxC20 := rd_ops t1 (xC20 (w5.heap.size)) (fun z hz => by
    simp only [xC20, List.mem_cons, List.not_mem_nil, or_false] at hz
    subst hz
    exact ⟨rit1, Rd.nil, Rd.nil⟩) (cs := #[.int .u8 2, .int .i64 0, .slice (some ⟨w5.heap.size, 0, none⟩) 2 2, .slice none 0 0, .slice none 0 0]) rfl (b := w5.heap.size + 1) zt1.symm
  have zt2 : (t1.alloc (.cells #[.int .u8 2, .int .i64 0, .slice (some ⟨w5.heap.size, 0, none⟩) 2 2, .slice none 0 0, .slice none 0 0] 54)).heap.size = w5.heap.size + 2 := by rw [World.size_alloc, zt1]
  generalize t1.alloc (.cells #[.int .u8 2, .int .i64 0, .slice (some ⟨w5.heap.size, 0, none⟩) 2 2, .slice none 0 0, .slice none 0 0] 54) = t2 at *
  have atxC20 : OpsC t2 (some ⟨w5.heap.size + 1, 0, none⟩) 1 1 (xC20 (w5.heap.size)) := ⟨⟨rdxC20, rfl, (fun z hz => by
    simp only [xC20, List.mem_cons, List.not_mem_nil, or_false] at hz
    subst hz; exact ok_small _ rfl rfl (by simp [opR, opI, opD])), by omega⟩, Nat.le_refl _, by unfold maxLen; omega, (fun z hz => by
    simp only [xC20, List.mem_cons, List.not_mem_nil, or_false] at hz
    subst hz; (unfold capO maxLen; simp [opR, opI, opD]))⟩
  refine (same15D (O_x5.out.at_.ext (ext_trans yt1 yt2)) atxC20.at_ (decide_eq_true (O_E.out.trans (by rfl)))).mono ?_
  have yq := ext_trans Y5.out (ext_trans yt1 yt2)
  rintro e wz ⟨rfl, y9⟩
  have yy := ext_trans yq y9
  clear yq y9
  go_wp2_with (fail)
  go_ret
  exact ⟨rfl, yy⟩
end Go.Proofs.YtnppoifgfehpfaaGreatDoor
