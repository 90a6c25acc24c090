/- Merged texts: Known24. -/
import Derived.Test.YtbdkbfoplpociaaGreatDoorBuildRB
import Derived.Test.YtbdkbfoplpociaaGreatDoorBuildLB
import Derived.Test.YtbdkbfoplpociaaGreatDoorK30
import Derived.Test.YtbdkbfoplpociaaGreatDoorK31
namespace Go.Proofs.YtbdkbfoplpociaaGreatDoor
open Go.RowKit
set_option linter.unusedVariables false
set_option linter.unusedSimpArgs false

def xR24  : List OpS := [⟨opR 2 [], none, 0, none, 0, none, 0⟩, ⟨opD 3, none, 0, none, 0, none, 0⟩]
def chK (k : Int) : Ch := ⟨k, true, V.zero⟩
def cx24 (a b : Nat) : List CX := [⟨some ⟨a, 0, none⟩, 1, [chK 1]⟩, ⟨some ⟨b, 0, none⟩, 1, [chK 2]⟩]
theorem r24_made : mkU (goneU 2 3) = osOf xR24 := by kernel_rfl
theorem l24_made (a b : Nat) : (mkU (linesU (atX (cx24 a b)) 0 0 [3, 7])).length = 4 := by kernel_rfl
theorem okch (k : Int) : okVs [chK k] := fun c hc => by
  rw [List.mem_singleton] at hc; subst hc
  exact ⟨by unfold okV chK V.zero; simp, Nat.zero_le _⟩

set_option maxRecDepth 100000 in
set_option maxHeartbeats 3200000 in
theorem known24_any (w : World) (hT : Lib.Utf8Tabs 1 2 w) :
    Calls Tryz.prog 73 #[] w fun e w' => e = .returned (.bool true) ∧ Below w.heap.size w w' := by
  have HT := Lib.hid hT
  clear hT
  go_enter Tryz.func73, Tryz.ntmps73
  go_wp2_with (go_at_call 74; refine Hid.out ?_)
  refine Lib.hid ?_
  refine (remove_any 2 3 2 5 rfl rfl (by omega) _).mono ?_
  rintro e w1 ⟨A1, c1, x1, rfl, h1, o1, y1⟩
  have E1 := Lib.hid (h1.trans r24_made)
  have O1 := Lib.hid o1
  have Y1 := Lib.hid y1
  clear h1 o1 y1
  go_wp2_with (go_at_call 26; refine Hid.out ?_)
  refine Lib.hid ?_
  have yt1 := ext_alloc w1 (.cells #[.int .u8 1, .int .i64 2, .slice none 0 0, .slice none 0 0, .slice none 0 0, .int .u8 3, .int .i64 3, .slice none 0 0, .slice none 0 0, .slice none 0 0] 40)
  have rdxR24 := rd_ops w1 xR24 (fun z hz => by
    simp only [xR24, List.mem_cons, List.not_mem_nil, or_false] at hz
    rcases hz with rfl | rfl
    · exact ⟨Rd.nil, Rd.nil, Rd.nil⟩
    · exact ⟨Rd.nil, Rd.nil, Rd.nil⟩) (cs := #[.int .u8 1, .int .i64 2, .slice none 0 0, .slice none 0 0, .slice none 0 0, .int .u8 3, .int .i64 3, .slice none 0 0, .slice none 0 0, .slice none 0 0]) rfl (b := w1.heap.size) rfl
  have zt1 : (w1.alloc (.cells #[.int .u8 1, .int .i64 2, .slice none 0 0, .slice none 0 0, .slice none 0 0, .int .u8 3, .int .i64 3, .slice none 0 0, .slice none 0 0, .slice none 0 0] 40)).heap.size = w1.heap.size + 1 := by simp
  generalize w1.alloc (.cells #[.int .u8 1, .int .i64 2, .slice none 0 0, .slice none 0 0, .slice none 0 0, .int .u8 3, .int .i64 3, .slice none 0 0, .slice none 0 0, .slice none 0 0] 40) = t1 at *
  have atxR24 : OpsC t1 (some ⟨w1.heap.size, 0, none⟩) 2 2 xR24 := ⟨⟨rdxR24, rfl, (fun z hz => by
    simp only [xR24, List.mem_cons, List.not_mem_nil, or_false] at hz
    rcases hz with rfl | rfl <;> exact ok_small _ rfl rfl (by simp [opR, opI, opD])), by omega⟩, Nat.le_refl _, by unfold maxLen; omega, (fun z hz => by
    simp only [xR24, List.mem_cons, List.not_mem_nil, or_false] at hz
    rcases hz with rfl | rfl <;> (unfold capO maxLen; simp [opR, opI, opD]))⟩
  refine (same15D (O1.out.at_.ext yt1) atxR24.at_ (decide_eq_true E1.out)).mono ?_
  have yq := ext_trans Y1.out yt1
  rintro e v1 ⟨rfl, y9⟩
  have Y2 := Lib.hid (ext_trans yq y9)
  clear yq y9 yt1 atxR24 rdxR24 O1 E1 Y1
  go_wp2_with (go_at_call 152; refine Hid.out ?_)
  refine Lib.hid ?_
  have yu1 := ext_alloc v1 (.cells #[.int .i64 3, .int .i64 7] 3)
  have ri : RdInt _ _ _ ([3, 7].map (fun p : Nat => (p : Int))) := Rd.new (enc := encInt) (size := 1) encInt_len v1 3 ([3, 7].map (fun p : Nat => (p : Int))) (cs := #[.int .i64 3, .int .i64 7]) rfl rfl
  have zu1 : (v1.alloc (.cells #[.int .i64 3, .int .i64 7] 3)).heap.size = v1.heap.size + 1 := by simp
  generalize v1.alloc (.cells #[.int .i64 3, .int .i64 7] 3) = u1 at *
  have yu2 := ext_alloc u1 (.cells #[.int .i64 1, .bool true, .int .u8 0, .int .i64 0, .int .u64 0, .string ⟨#[]⟩] 45)
  have rc1 : RdCh _ _ _ [chK 1] := Rd.new (enc := Ch.enc) (size := 6) Ch.enc_len u1 45 [chK 1] (cs := #[.int .i64 1, .bool true, .int .u8 0, .int .i64 0, .int .u64 0, .string ⟨#[]⟩]) rfl (b := v1.heap.size + 1) zu1.symm
  have zu2 : (u1.alloc (.cells #[.int .i64 1, .bool true, .int .u8 0, .int .i64 0, .int .u64 0, .string ⟨#[]⟩] 45)).heap.size = v1.heap.size + 2 := by rw [World.size_alloc, zu1]
  generalize u1.alloc (.cells #[.int .i64 1, .bool true, .int .u8 0, .int .i64 0, .int .u64 0, .string ⟨#[]⟩] 45) = u2 at *
  have yu3 := ext_alloc u2 (.cells #[.int .i64 2, .bool true, .int .u8 0, .int .i64 0, .int .u64 0, .string ⟨#[]⟩] 45)
  have rc2 : RdCh _ _ _ [chK 2] := Rd.new (enc := Ch.enc) (size := 6) Ch.enc_len u2 45 [chK 2] (cs := #[.int .i64 2, .bool true, .int .u8 0, .int .i64 0, .int .u64 0, .string ⟨#[]⟩]) rfl (b := v1.heap.size + 2) zu2.symm
  have zu3 : (u2.alloc (.cells #[.int .i64 2, .bool true, .int .u8 0, .int .i64 0, .int .u64 0, .string ⟨#[]⟩] 45)).heap.size = v1.heap.size + 3 := by rw [World.size_alloc, zu2]
  generalize u2.alloc (.cells #[.int .i64 2, .bool true, .int .u8 0, .int .i64 0, .int .u64 0, .string ⟨#[]⟩] 45) = u3 at *
  have yu4 := ext_alloc u3 (.cells #[.slice (some ⟨v1.heap.size + 1, 0, none⟩) 1 1, .slice (some ⟨v1.heap.size + 2, 0, none⟩) 1 1] 37)
  have rx : Rd CX.enc 1 _ _ _ (cx24 (v1.heap.size + 1) (v1.heap.size + 2)) := Rd.new (enc := CX.enc) (size := 1) (fun _ => rfl) u3 37 (cx24 (v1.heap.size + 1) (v1.heap.size + 2)) (cs := #[.slice (some ⟨v1.heap.size + 1, 0, none⟩) 1 1, .slice (some ⟨v1.heap.size + 2, 0, none⟩) 1 1]) rfl (b := v1.heap.size + 3) zu3.symm
  have zu4 : (u3.alloc (.cells #[.slice (some ⟨v1.heap.size + 1, 0, none⟩) 1 1, .slice (some ⟨v1.heap.size + 2, 0, none⟩) 1 1] 37)).heap.size = v1.heap.size + 4 := by rw [World.size_alloc, zu3]
  generalize u3.alloc (.cells #[.slice (some ⟨v1.heap.size + 1, 0, none⟩) 1 1, .slice (some ⟨v1.heap.size + 2, 0, none⟩) 1 1] 37) = u4 at *
  have r3 := ri.ext (ext_trans yu2 (ext_trans yu3 yu4))
  have rd1 := rc1.ext (ext_trans yu3 yu4)
  have rd2 := rc2.ext yu4
  have Y3 := Lib.hid (ext_trans Y2.out (ext_trans yu1 (ext_trans yu2 (ext_trans yu3 yu4))))
  refine (lines_any (some ⟨v1.heap.size, 0, none⟩) (some ⟨v1.heap.size + 3, 0, none⟩) 2 2 2 2 [3, 7] (cx24 (v1.heap.size + 1) (v1.heap.size + 2)) _ rfl r3 (by omega) (fun p hp => by
    rcases List.mem_cons.1 hp with rfl | hp
    · omega
    · rw [List.mem_singleton] at hp; omega) rfl rx (by omega) (fun z hz => by
    rcases List.mem_cons.1 hz with rfl | hz
    · exact ⟨rd1, (by show 1 ≤ 64; omega), okch 1⟩
    · rw [List.mem_singleton] at hz; subst hz
      exact ⟨rd2, (by show 1 ≤ 64; omega), okch 2⟩)).mono ?_
  rintro e w5 ⟨A5, c5, x5, rfl, h5, o5, y5⟩
  have L5 : x5.length = 4 := by
    have h := congrArg List.length h5
    rw [l24_made] at h
    unfold osOf at h
    rwa [List.length_map] at h
  have Y5 := Lib.hid (ext_trans Y3.out y5)
  rw [L5]
  clear h5 o5 y5 r3 rd1 rd2 rx ri rc1 rc2 L5
  go_wp2_with (fail)
  go_ret
  exact ⟨rfl, Y5.out⟩
end Go.Proofs.YtbdkbfoplpociaaGreatDoor
