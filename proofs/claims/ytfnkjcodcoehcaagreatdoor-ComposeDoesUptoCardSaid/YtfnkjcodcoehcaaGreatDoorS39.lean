/- Merged texts: Known20, Great20, RefMay06, Takes15. -/
import Derived.Test.YtfnkjcodcoehcaaGreatDoorS38
import Derived.Test.YtfnkjcodcoehcaaGreatDoorS26
import Derived.Test.YtfnkjcodcoehcaaGreatDoorS2
import Derived.Test.YtfnkjcodcoehcaaGreatDoorS13
import Derived.Test.YtfnkjcodcoehcaaGreatDoorS28
import Derived.Test.YtfnkjcodcoehcaaGreatDoorS9
namespace Go.Proofs.YtfnkjcodcoehcaaGreatDoor
open Go.RowKit
set_option linter.unusedVariables false
set_option linter.unusedSimpArgs false

def xA20 (b0 : Nat) : List OpS := [⟨opI [97, 98] [], some ⟨b0, 0, none⟩, 2, none, 0, none, 0⟩]
def xB20 (b0 : Nat) : List OpS := [⟨opR 1 [], none, 0, none, 0, none, 0⟩, ⟨opI [99] [], some ⟨b0, 0, none⟩, 1, none, 0, none, 0⟩, ⟨opD 1, none, 0, none, 0, none, 0⟩]
def xC20 (b0 : Nat) : List OpS := [⟨opI [97, 99] [], some ⟨b0, 0, none⟩, 2, none, 0, none, 0⟩]
theorem a20_may (b : Nat) : mayO kK19 (xA20 b) = 0 := by kernel_rfl
theorem b20_may (b : Nat) : mayO kK19 (xB20 b) = 0 := by kernel_rfl
theorem a20_comp (b c d : Nat) : mkU (compU kK19 (units (osOf (xA20 b))) (units (osOf (xB20 c)))) = osOf (xC20 d) := by kernel_rfl
theorem a20_size (b c : Nat) : takesU (compU kK19 (units (osOf (xA20 b))) (units (osOf (xB20 c)))) = 0 ∧ makesU (compU kK19 (units (osOf (xA20 b))) (units (osOf (xB20 c)))) = 2 := ⟨by kernel_rfl, by kernel_rfl⟩

set_option maxRecDepth 100000 in
set_option maxHeartbeats 3200000 in
theorem known20_any (w : World) (hT : Lib.Utf8Tabs 1 2 w) :
    Calls Tryz.prog 41 #[] w fun e w' => e = .returned (.bool true) ∧ Below w.heap.size w w' := by
  go_enter Tryz.func41, Tryz.ntmps41
  go_wp2_with (go_at_call 13; refine Hid.out ?_)
  refine Lib.hid ?_
  have y := ext_alloc w (.cells #[.int .i64 1, .bool false, .int .u8 1, .bool false, .bool false, .int .i64 0] 97)
  have rk : RdKy _ _ _ kK19 := Rd.new (enc := Ky.enc) (size := 6) Ky.enc_len w 97 kK19 (cs := #[.int .i64 1, .bool false, .int .u8 1, .bool false, .bool false, .int .i64 0]) rfl rfl
  refine (new_any (some ⟨w.heap.size, 0, none⟩) 1 1 kK19 _ rfl rk (by omega)).mono ?_
  rintro e v1 ⟨y1, ⟨hm, s, rfl, hS⟩ | ⟨hm, rfl⟩⟩
  rotate_left
  · have : mayKs kK19 = true := by decide +kernel
    rw [this] at hm; cases hm
  clear hm rk
  replace y := ext_trans y y1
  clear y1
  go_wp2_with (go_at_call 42; refine Hid.out ?_)
  refine Lib.hid ?_
  have yu1 := ext_alloc v1 (.cells #[.int .i32 97, .int .i32 98] 21)
  have riu1 : RdI32 _ _ _ [97, 98] := Rd.new (enc := encI32) (size := 1) encI32_len v1 21 [97, 98] (cs := #[.int .i32 97, .int .i32 98]) rfl rfl
  have zu1 : (v1.alloc (.cells #[.int .i32 97, .int .i32 98] 21)).heap.size = v1.heap.size + 1 := by simp
  generalize v1.alloc (.cells #[.int .i32 97, .int .i32 98] 21) = u1 at *
  have yu2 := ext_alloc u1 (.cells #[.int .u8 2, .int .i64 0, .slice (some ⟨v1.heap.size, 0, none⟩) 2 2, .slice none 0 0, .slice none 0 0] 50)
  have rdxA20 := rd_ops u1 (xA20 (v1.heap.size)) (fun z hz => by
    simp only [xA20, List.mem_cons, List.not_mem_nil, or_false] at hz
    subst hz
    exact ⟨riu1, Rd.nil, Rd.nil⟩) (cs := #[.int .u8 2, .int .i64 0, .slice (some ⟨v1.heap.size, 0, none⟩) 2 2, .slice none 0 0, .slice none 0 0]) rfl (b := v1.heap.size + 1) zu1.symm
  have zu2 : (u1.alloc (.cells #[.int .u8 2, .int .i64 0, .slice (some ⟨v1.heap.size, 0, none⟩) 2 2, .slice none 0 0, .slice none 0 0] 50)).heap.size = v1.heap.size + 2 := by rw [World.size_alloc, zu1]
  generalize u1.alloc (.cells #[.int .u8 2, .int .i64 0, .slice (some ⟨v1.heap.size, 0, none⟩) 2 2, .slice none 0 0, .slice none 0 0] 50) = u2 at *
  have atxA20 : OpsC u2 (some ⟨v1.heap.size + 1, 0, none⟩) 1 1 (xA20 (v1.heap.size)) := ⟨⟨rdxA20, rfl, (fun z hz => by
    simp only [xA20, List.mem_cons, List.not_mem_nil, or_false] at hz
    subst hz; exact ok_small _ rfl rfl (by simp [opR, opI, opD])), by omega⟩, Nat.le_refl _, by unfold maxLen; omega, (fun z hz => by
    simp only [xA20, List.mem_cons, List.not_mem_nil, or_false] at hz
    subst hz; (unfold capO maxLen; simp [opR, opI, opD]))⟩
  have yu3 := ext_alloc u2 (.cells #[.int .i32 99] 21)
  have riu3 : RdI32 _ _ _ [99] := Rd.new (enc := encI32) (size := 1) encI32_len u2 21 [99] (cs := #[.int .i32 99]) rfl (b := v1.heap.size + 2) zu2.symm
  have zu3 : (u2.alloc (.cells #[.int .i32 99] 21)).heap.size = v1.heap.size + 3 := by rw [World.size_alloc, zu2]
  generalize u2.alloc (.cells #[.int .i32 99] 21) = u3 at *
  have yu4 := ext_alloc u3 (.cells #[.int .u8 1, .int .i64 1, .slice none 0 0, .slice none 0 0, .slice none 0 0, .int .u8 2, .int .i64 0, .slice (some ⟨v1.heap.size + 2, 0, none⟩) 1 1, .slice none 0 0, .slice none 0 0, .int .u8 3, .int .i64 1, .slice none 0 0, .slice none 0 0, .slice none 0 0] 50)
  have rdxB20 := rd_ops u3 (xB20 (v1.heap.size + 2)) (fun z hz => by
    simp only [xB20, List.mem_cons, List.not_mem_nil, or_false] at hz
    rcases hz with rfl | rfl | rfl
    · exact ⟨Rd.nil, Rd.nil, Rd.nil⟩
    · exact ⟨riu3, Rd.nil, Rd.nil⟩
    · exact ⟨Rd.nil, Rd.nil, Rd.nil⟩) (cs := #[.int .u8 1, .int .i64 1, .slice none 0 0, .slice none 0 0, .slice none 0 0, .int .u8 2, .int .i64 0, .slice (some ⟨v1.heap.size + 2, 0, none⟩) 1 1, .slice none 0 0, .slice none 0 0, .int .u8 3, .int .i64 1, .slice none 0 0, .slice none 0 0, .slice none 0 0]) rfl (b := v1.heap.size + 3) zu3.symm
  have zu4 : (u3.alloc (.cells #[.int .u8 1, .int .i64 1, .slice none 0 0, .slice none 0 0, .slice none 0 0, .int .u8 2, .int .i64 0, .slice (some ⟨v1.heap.size + 2, 0, none⟩) 1 1, .slice none 0 0, .slice none 0 0, .int .u8 3, .int .i64 1, .slice none 0 0, .slice none 0 0, .slice none 0 0] 50)).heap.size = v1.heap.size + 4 := by rw [World.size_alloc, zu3]
  generalize u3.alloc (.cells #[.int .u8 1, .int .i64 1, .slice none 0 0, .slice none 0 0, .slice none 0 0, .int .u8 2, .int .i64 0, .slice (some ⟨v1.heap.size + 2, 0, none⟩) 1 1, .slice none 0 0, .slice none 0 0, .int .u8 3, .int .i64 1, .slice none 0 0, .slice none 0 0, .slice none 0 0] 50) = u4 at *
  have atxB20 : OpsC u4 (some ⟨v1.heap.size + 3, 0, none⟩) 3 3 (xB20 (v1.heap.size + 2)) := ⟨⟨rdxB20, rfl, (fun z hz => by
    simp only [xB20, List.mem_cons, List.not_mem_nil, or_false] at hz
    rcases hz with rfl | rfl | rfl <;> exact ok_small _ rfl rfl (by simp [opR, opI, opD])), by omega⟩, Nat.le_refl _, by unfold maxLen; omega, (fun z hz => by
    simp only [xB20, List.mem_cons, List.not_mem_nil, or_false] at hz
    rcases hz with rfl | rfl | rfl <;> (unfold capO maxLen; simp [opR, opI, opD]))⟩
  have yq := ext_trans y (ext_trans yu1 (ext_trans yu2 (ext_trans yu3 yu4)))
  have Y3 := Lib.hid yq
  have hS3 := hS.ext (ext_trans yu1 (ext_trans yu2 (ext_trans yu3 yu4)))
  refine (composeOk_any s kK19 (some ⟨v1.heap.size + 1, 0, none⟩) (some ⟨v1.heap.size + 3, 0, none⟩) 1 1 3 3 (xA20 (v1.heap.size)) (xB20 (v1.heap.size + 2)) _ (atxA20.ext (ext_trans yu3 yu4)) atxB20 hS3 (by decide) (Utf8Tabs_below hT Y3.out) (a20_may _) (b20_may _) (by show 3 ≤ _; omega) (by show 4 ≤ _; omega) (by rw [(a20_size _ _).1]; omega) (by rw [(a20_size _ _).2]; omega)).mono ?_
  rintro e w5 ⟨A5, c5, x5, rfl, e5, o5, y5⟩
  have O_x5 := Lib.hid o5
  have O_E : Hid (osOf x5 = osOf (xC20 w5.heap.size)) := Lib.hid (e5.trans (a20_comp _ _ _))
  have Y5 := Lib.hid (ext_trans Y3.out y5)
  clear y5 o5 e5 yq hS3 hS y yu1 yu2 yu3 yu4
  go_wp2_with (go_at_call 22; refine Hid.out ?_)
  refine Lib.hid ?_
  have yt1 := ext_alloc w5 (.cells #[.int .i32 97, .int .i32 99] 21)
  have rit1 : RdI32 _ _ _ [97, 99] := Rd.new (enc := encI32) (size := 1) encI32_len w5 21 [97, 99] (cs := #[.int .i32 97, .int .i32 99]) rfl rfl
  have zt1 : (w5.alloc (.cells #[.int .i32 97, .int .i32 99] 21)).heap.size = w5.heap.size + 1 := by simp
  generalize w5.alloc (.cells #[.int .i32 97, .int .i32 99] 21) = t1 at *
  have yt2 := ext_alloc t1 (.cells #[.int .u8 2, .int .i64 0, .slice (some ⟨w5.heap.size, 0, none⟩) 2 2, .slice none 0 0, .slice none 0 0] 50)
  have rdxC20 := rd_ops t1 (xC20 (w5.heap.size)) (fun z hz => by
    simp only [xC20, List.mem_cons, List.not_mem_nil, or_false] at hz
    subst hz
    exact ⟨rit1, Rd.nil, Rd.nil⟩) (cs := #[.int .u8 2, .int .i64 0, .slice (some ⟨w5.heap.size, 0, none⟩) 2 2, .slice none 0 0, .slice none 0 0]) rfl (b := w5.heap.size + 1) zt1.symm
  have zt2 : (t1.alloc (.cells #[.int .u8 2, .int .i64 0, .slice (some ⟨w5.heap.size, 0, none⟩) 2 2, .slice none 0 0, .slice none 0 0] 50)).heap.size = w5.heap.size + 2 := by rw [World.size_alloc, zt1]
  generalize t1.alloc (.cells #[.int .u8 2, .int .i64 0, .slice (some ⟨w5.heap.size, 0, none⟩) 2 2, .slice none 0 0, .slice none 0 0] 50) = t2 at *
  have atxC20 : OpsC t2 (some ⟨w5.heap.size + 1, 0, none⟩) 1 1 (xC20 (w5.heap.size)) := ⟨⟨rdxC20, rfl, (fun z hz => by
    simp only [xC20, List.mem_cons, List.not_mem_nil, or_false] at hz
    subst hz; exact ok_small _ rfl rfl (by simp [opR, opI, opD])), by omega⟩, Nat.le_refl _, by unfold maxLen; omega, (fun z hz => by
    simp only [xC20, List.mem_cons, List.not_mem_nil, or_false] at hz
    subst hz; (unfold capO maxLen; simp [opR, opI, opD]))⟩
  refine (same15D (O_x5.out.at_.ext (ext_trans yt1 yt2)) atxC20.at_ (decide_eq_true (O_E.out.trans (by rfl)))).mono ?_
  have yq := ext_trans Y5.out (ext_trans yt1 yt2)
  rintro e wz ⟨rfl, y9⟩
  have yy := ext_trans yq y9
  clear yq y9
  go_wp2_with (fail)
  go_ret
  exact ⟨rfl, yy⟩
end Go.Proofs.YtfnkjcodcoehcaaGreatDoor
namespace Go.Proofs.YtfnkjcodcoehcaaGreatDoor
open Go.RowKit
set_option linter.unusedVariables false
set_option linter.unusedSimpArgs false

def Great20 (n0 : Nat) (L : List SX) (w : World) (e : Ending) (w' : World) : Prop :=
  ∃ b : Bool, e = .returned (.bool b) ∧ (b = false → n0 ≤ 64 ∧ sumX L ≤ 5000) ∧ ∃ d, w' = w.drewN d
set_option maxRecDepth 100000 in
set_option maxHeartbeats 1600000 in
theorem great20_any (A0 A2 : Option Addr) (n0 c0 n c : Nat) (L : List SX) (w : World) (hn : n = L.length) (h : Rd SX.enc 1 w w.heap.size A2 L) (hb : n ≤ 1000) (h0 : n0 ≤ 140737488355328)
    (hs : ∀ s ∈ L, RdOp w w.heap.size s.A s.l ∧ s.l.length ≤ 140737488355328) (hz : sumX L ≤ 9223372036854775807) (hz1 : ∀ s ∈ L, szX s.l ≤ 4611686018427387904) :
    Calls Tryz.prog 40 #[.slice A0 n0 c0, .slice A2 n c] w (Great20 n0 L w) := by
  have N := Lib.hid hn
  have HS := Lib.hid hs
  have HZ := Lib.hid hz
  have HZ1 := Lib.hid hz1
  clear hn hs hz hz1
  go_enter Tryz.func40, Tryz.ntmps40
  go_wp2_with (fail)
  go_loopg [5, 9] n (fun g av iv wr => ∃ (m a : Nat), m ≤ n ∧ g = n - m ∧ a = sumX (L.take m) ∧ av = .int .i64 (a : Int) ∧ iv = .int .i64 (m : Int) ∧ ∃ d, wr = w.drewN d)
  case atStart => exact ⟨0, 0, by omega, rfl, rfl, rfl, rfl, 0, rfl⟩
  case round =>
    obtain ⟨m, a, hm, hg, ha, rfl, rfl, d3, rfl⟩ := hrel
    have HG := Lib.hid hg
    have HA := Lib.hid ha
    clear hg ha
    by_cases hlt : m < n
    · obtain ⟨ad, z, had0, had, _, hx1, hc0⟩ := h.el (i := m) (by have := N.out; omega)
      subst had0
      obtain ⟨f1, f2⟩ := HS.out z (List.mem_of_getElem? hx1)
      have TK : Hid (sumX (L.take (m + 1)) = a + szX z.l) := Lib.hid (by rw [HA.out]; exact sum_take1 (fun s : SX => szX s.l) hx1)
      have TB : Hid (a + szX z.l ≤ 9223372036854775807) := Lib.hid (by rw [← TK.out]; exact Nat.le_trans (sum_take_le (fun s : SX => szX s.l) L (m + 1)) HZ.out)
      have Z1 := Lib.hid (HZ1.out z (List.mem_of_getElem? hx1))
      obtain ⟨A3, c3, x⟩ := z
      simp only at f1 f2 TK TB Z1
      have q0 : _ = some (Value.slice A3 x.length c3) := hc0 0 _ rfl
      rw [add_zero', Nat.mul_one] at q0
      obtain ⟨n3, hn3⟩ : ∃ n3, n3 = x.length := ⟨_, rfl⟩
      rw [← hn3] at q0 f2
      have N3 := Lib.hid hn3
      have hw2 : IntKind.i64.wrap ((m:Int) + 1) = (m : Int) + 1 := IntWalk.i64_in _ (by omega)
      clear hn3 hx1 hc0
      go_wp2_with (go_at_call 87; refine Hid.out ?_)
      refine Lib.hid ?_
      refine (sizeX2_any A3 n3 c3 x (w.drewN d3) N3.out ⟨f1.1.drewN _, fun q hq => ⟨(f1.2 q hq).1.drewN _, (f1.2 q hq).2.1.drewN _, (f1.2 q hq).2.2.drewN _⟩⟩ f2 (by have := Z1.out; omega)).mono ?_
      obtain ⟨sz, hsz⟩ : ∃ X, szX x = X := ⟨_, rfl⟩
      clear Z1
      rw [hsz] at TK TB ⊢
      rintro e w2 ⟨rfl, d2, rfl⟩
      have hw4 : IntKind.i64.wrap ((a:Int) + (sz : Int)) = (a : Int) + sz := IntWalk.i64_in _ (by have := TB.out; omega)
      clear hsz
      go_wp2_with (fail)
      go_roundg (n - (m + 1))
      case measure => have := HG.out; omega
      case rel => exact ⟨m + 1, a + sz, by omega, rfl, TK.out.symm, by go_num, by go_num, _, (by first | rfl | exact World.drewN_drewN _ _ _)⟩
    · have HA9 : Hid (a = sumX L) := Lib.hid (by have := HA.out; rwa [List.take_of_length_le (by have := N.out; omega)] at this)
      have AB : a ≤ 9223372036854775807 := by rw [HA9.out]; exact HZ.out
      by_cases h64 : (64 : Int) < (n0 : Int)
      · go_wp2_with (fail)
        go_ret
        exact ⟨true, rfl, (by intro h; cases h), _, rfl⟩
      · go_wp2_with (fail)
        go_ret
        exact ⟨decide ((5000 : Int) < (a : Int)), rfl, fun h5 => ⟨by omega, by have := of_decide_eq_false h5; rw [← HA9.out]; omega⟩, _, rfl⟩
end Go.Proofs.YtfnkjcodcoehcaaGreatDoor
namespace Go.Proofs.YtfnkjcodcoehcaaGreatDoor
open Go.RowKit
set_option linter.unusedVariables false
set_option linter.unusedSimpArgs false

set_option maxRecDepth 100000 in
set_option maxHeartbeats 3200000 in
theorem mayR6_any (A B : Option Addr) (n c n2 c2 : Nat) (l : List Ky) (p : List Ch) (w : World) (hn : n = l.length) (h : RdKy w w.heap.size A l) (hb : n ≤ 140737488355328) (hn2 : n2 = p.length) (h2 : RdCh w w.heap.size B p) (hb2 : n2 ≤ 140737488355328) (hv : okVs p) (hT : Lib.Utf8Tabs 1 2 w) :
    Calls Tryz.prog 108 #[.slice A n c, .slice B n2 c2] w fun e w' => e = .returned (.int .i64 (mayP l p)) ∧ Below w.heap.size w w' := by
  have N := Lib.hid hn
  have N2 := Lib.hid hn2
  generalize hR : mayP l p = R
  have HR := Lib.hid hR
  clear hn hn2 hR
  go_enter Tryz.func108, Tryz.ntmps108
  go_wp2_with (go_at_call 36; refine Hid.out ?_)
  refine Lib.hid ?_
  refine (risingC_any B n2 c2 p w N2.out h2 hb2).mono ?_
  rintro e w1 ⟨rfl, d, rfl⟩
  generalize hrr : riseC p = Q
  have HQ := Lib.hid hrr
  clear hrr
  cases Q with
  | false =>
    go_wp2_with (fail)
    go_ret
    refine ⟨ret_int ?_, ext_drew _ _⟩
    rw [← HR.out]
    unfold mayP
    rw [HQ.out]
    by_cases h : 64 < p.length <;> simp [h]
  | true =>
    by_cases h64 : (64 : Int) < (n2 : Int)
    · go_wp2_with (fail)
      go_ret
      refine ⟨ret_int ?_, ext_drew _ _⟩
      rw [← HR.out]
      unfold mayP
      rw [if_pos (by have := N2.out; omega)]
    have HP : Hid ((if p.all okC = true then (if p.all (thereC l) = true then 0 else 4) else 3) = R) := Lib.hid (by
      rw [← HR.out]
      unfold mayP
      rw [if_neg (show ¬ (64 < p.length) by have := N2.out; omega), HQ.out]
      simp)
    obtain ⟨R1, hR1⟩ : ∃ X, p.all okC = X := ⟨_, rfl⟩
    have HR1 := Lib.hid hR1
    clear hR1
    go_wp2_with (fail)
    go_loopg [5] n2 (fun g iv wr => ∃ m : Nat, m ≤ n2 ∧ g = n2 - m ∧ iv = .int .i64 (m : Int) ∧ Below w.heap.size w wr ∧ Hid ((p.drop m).all okC = R1))
    case atStart => exact ⟨0, by omega, rfl, rfl, ext_drew _ _, Lib.hid (by rw [List.drop_zero]; exact HR1.out)⟩
    case round =>
      obtain ⟨m, hm, hg, rfl, y, HI⟩ := hrel
      have HG := Lib.hid hg
      clear hg HR
      by_cases hlt : m < n2
      · have hl1 : m < p.length := by have := N2.out; omega
        obtain ⟨ad, x, rfl, had, hd1, hx1, hc0⟩ := (h2.below y (Nat.le_refl _)).el hl1
        have hxv := hv x (List.mem_of_getElem? hx1)
        have HI2 := Lib.hid (all_drop hd1 HI.out)
        obtain ⟨x1, g, x2, x3, x4, x5⟩ := x
        obtain ⟨r0, r1, r2, r3, r4, r5⟩ := ch_cells hc0
        obtain ⟨f0, f1⟩ : 0 ≤ x4 ∧ x4 < 18446744073709551616 := ⟨hxv.1.f0, hxv.1.f1⟩
        have hsz : x5.size ≤ 100000000 := hxv.2
        clear hc0 hd1 hx1 hxv HI
        have hw2 : IntKind.i64.wrap ((m:Int) + 1) = (m : Int) + 1 := IntWalk.i64_in _ (by omega)
        cases g with
        | true =>
          cases hz : beqV ⟨x2, x3, x4, x5⟩ ⟨0, 0, 0, ⟨#[]⟩⟩ with
          | false =>
            have HOK : Hid (okC ⟨x1, true, x2, x3, x4, x5⟩ = false) := Lib.hid hz
            have HF : Hid (p.all okC = false) := Lib.hid (by rw [HR1.out, ← HI2.out, HOK.out]; rfl)
            go_wp2_with (fail)
            go_ret
            exact ⟨ret_int (by rw [← HP.out, HF.out]; rfl), y⟩
          | true =>
            have HOK : Hid (okC ⟨x1, true, x2, x3, x4, x5⟩ = true) := Lib.hid hz
            go_wp2_with (fail)
            go_roundg (n2 - (m + 1))
            case measure => have := HG.out; omega
            case rel => exact ⟨m + 1, by omega, rfl, by go_num, y, Lib.hid (by rw [← HI2.out, HOK.out, Bool.true_and])⟩
        | false =>
          go_wp2_with (go_at_call 174; refine Hid.out ?_)
          refine Lib.hid ?_
          refine (refMayV_any x2 x3 x4 x5 _ f0 f1 hsz ?tb).mono ?_
          case tb => exact tabs_at hT y rfl
          rintro e w6 ⟨rfl, y6⟩
          have HOK : Hid (okC ⟨x1, false, x2, x3, x4, x5⟩ = mayV ⟨x2, x3, x4, x5⟩) := Lib.hid rfl
          generalize mayV ⟨x2, x3, x4, x5⟩ = M at HOK ⊢
          have yy6 := below_at y y6 rfl rfl rfl rfl
          cases M with
          | false =>
            have HF : Hid (p.all okC = false) := Lib.hid (by rw [HR1.out, ← HI2.out, HOK.out]; rfl)
            go_wp2_with (fail)
            go_ret
            exact ⟨ret_int (by rw [← HP.out, HF.out]; rfl), yy6⟩
          | true =>
            go_wp2_with (fail)
            go_roundg (n2 - (m + 1))
            case measure => have := HG.out; omega
            case rel => exact ⟨m + 1, by omega, rfl, by go_num, yy6, Lib.hid (by rw [← HI2.out, HOK.out, Bool.true_and])⟩
      · have HF : Hid (p.all okC = true) := Lib.hid (by rw [HR1.out, ← HI.out, List.drop_eq_nil_of_le (by have := N2.out; omega)]; rfl)
        clear HI HR1
        obtain ⟨R2, hR2⟩ : ∃ X, p.all (thereC l) = X := ⟨_, rfl⟩
        have HR2 := Lib.hid hR2
        clear hR2
        go_wp2_with (fail)
        go_loopg [6] n2 (fun g iv wr => ∃ m : Nat, m ≤ n2 ∧ g = n2 - m ∧ iv = .int .i64 (m : Int) ∧ Below w.heap.size w wr ∧ Hid ((p.drop m).all (thereC l) = R2))
        case atStart => exact ⟨0, by omega, rfl, rfl, y, Lib.hid (by rw [List.drop_zero]; exact HR2.out)⟩
        case round =>
          obtain ⟨m, hm, hg, rfl, y, HI⟩ := hrel
          have HG := Lib.hid hg
          clear hg
          by_cases hlt : m < n2
          · have hl1 : m < p.length := by have := N2.out; omega
            obtain ⟨ad, x, rfl, had, hd1, hx1, hc0⟩ := (h2.below y (Nat.le_refl _)).el hl1
            obtain ⟨ad', x', e', _, _, hx1', hcw⟩ := h2.el hl1
            injection e' with e'
            subst e'
            rw [hx1] at hx1'
            injection hx1' with hx1'
            subst hx1'
            have hxv := hv x (List.mem_of_getElem? hx1)
            have HI2 := Lib.hid (all_drop hd1 HI.out)
            obtain ⟨x1, g, x2, x3, x4, x5⟩ := x
            obtain ⟨r0, r1, r2, r3, r4, r5⟩ := ch_cells hc0
            have HCW := Lib.hid hcw
            obtain ⟨f0, f1⟩ : 0 ≤ x4 ∧ x4 < 18446744073709551616 := ⟨hxv.1.f0, hxv.1.f1⟩
            have hsz : x5.size ≤ 100000000 := hxv.2
            clear hc0 hd1 hx1 hxv HI hcw
            have hw2 : IntKind.i64.wrap ((m:Int) + 1) = (m : Int) + 1 := IntWalk.i64_in _ (by omega)
            go_wp2_with (go_at_call 151; refine Hid.out ?_)
            refine Lib.hid ?_
            refine (findR_any A n c l x1 wr N.out ((h.below y (Nat.le_refl _)).more y.size) hb).mono ?_
            rintro e w3 ⟨k1, k2, k3, k4, k5, k6, q, rfl, hq1, hq2, y3⟩
            have HQ2 := Lib.hid hq2
            have y4 := ext_alloc w3 (.cells #[.int .i64 k1, .bool k2, .int .u8 k3, .bool k4, .bool k5, .int .i64 k6] 97)
            have y5 := ext_trans y (ext_trans y3 y4)
            clear hq1 hq2 r0 r1 r2 r3 r4 r5
            have gg : GoodB w [] _ := ⟨y5, by intro p hp; cases hp⟩
            have hx : ∀ x : GW w [], CellsAt x.val (ad.add (m * 6)) (Ch.enc ⟨x1, g, x2, x3, x4, x5⟩) := fun x => HCW.out.keep fun q hq => x.ok.1.cell (by rw [hq, add_block]; exact had)
            have r0 : ∀ x : GW w [], _ := fun x => (ch_cells (hx x)).1
            have r1 : ∀ x : GW w [], _ := fun x => (ch_cells (hx x)).2.1
            have r2 : ∀ x : GW w [], _ := fun x => (ch_cells (hx x)).2.2.1
            have r3 : ∀ x : GW w [], _ := fun x => (ch_cells (hx x)).2.2.2.1
            have r4 : ∀ x : GW w [], _ := fun x => (ch_cells (hx x)).2.2.2.2.1
            have r5 : ∀ x : GW w [], _ := fun x => (ch_cells (hx x)).2.2.2.2.2
            clear hx
            haveI : Nonempty (GW w []) := ⟨⟨_, gg⟩⟩
            cases q with
            | false =>
              have HTH : Hid (thereC l ⟨x1, g, x2, x3, x4, x5⟩ = false) := Lib.hid (by unfold thereC; rw [HQ2.out]; rfl)
              go_wp2_with (fail)
              refine wp_region_class (by kernel_rfl) (by kernel_rfl) gg ?_
              repeat (go_big_quiet_step (fail))
              refine wpQuiet_nil ?_
              intro _ hw'
              obtain ⟨xx, rfl⟩ := hw'
              have yx := xx.ok.1
              generalize xx.val = w8 at *
              clear r0 r1 r2 r3 r4 r5
              go_wp2_with (fail)
              go_ret
              exact ⟨ret_int (by rw [← HP.out, HF.out, show p.all (thereC l) = false by rw [HR2.out, ← HI2.out, HTH.out]; rfl]; rfl), yx⟩
            | true =>
              cases g with
              | true =>
                have HTH : Hid (thereC l ⟨x1, true, x2, x3, x4, x5⟩ = true) := Lib.hid (by unfold thereC; rw [HQ2.out]; rfl)
                go_wp2_with (fail)
                refine wp_region_class (by kernel_rfl) (by kernel_rfl) gg ?_
                repeat (go_big_quiet_step (fail))
                refine wpQuiet_nil ?_
                intro _ hw'
                obtain ⟨xx, rfl⟩ := hw'
                have yx := xx.ok.1
                generalize xx.val = w8 at *
                clear r0 r1 r2 r3 r4 r5
                go_wp2_with (fail)
                go_roundg (n2 - (m + 1))
                case measure => have := HG.out; omega
                case rel => exact ⟨m + 1, by omega, rfl, by go_num, yx, Lib.hid (by rw [← HI2.out, HTH.out, Bool.true_and])⟩
              | false =>
                obtain ⟨FI, hFI⟩ : ∃ X, fitsK l x1 ⟨x2, x3, x4, x5⟩ = X := ⟨_, rfl⟩
                have HFI := Lib.hid hFI
                have HTH : Hid (thereC l ⟨x1, false, x2, x3, x4, x5⟩ = FI) := Lib.hid (by unfold thereC; rw [HQ2.out, ← hFI]; rfl)
                clear hFI
                cases FI with
                | false =>
                  go_wp2_with (fail)
                  refine wp_region_class (by kernel_rfl) (by kernel_rfl) gg ?_
                  repeat (go_big_quiet_step (first | (go_at_call 175; with_reducible exact fitsR_class hT N.out h hb f0 f1 hsz _ HFI.out)))
                  refine wpQuiet_nil ?_
                  intro _ hw'
                  obtain ⟨xx, rfl⟩ := hw'
                  have yx := xx.ok.1
                  generalize xx.val = w8 at *
                  clear r0 r1 r2 r3 r4 r5
                  go_wp2_with (fail)
                  go_ret
                  exact ⟨ret_int (by rw [← HP.out, HF.out, show p.all (thereC l) = false by rw [HR2.out, ← HI2.out, HTH.out]; rfl]; rfl), yx⟩
                | true =>
                  go_wp2_with (fail)
                  refine wp_region_class (by kernel_rfl) (by kernel_rfl) gg ?_
                  repeat (go_big_quiet_step (first | (go_at_call 175; with_reducible exact fitsR_class hT N.out h hb f0 f1 hsz _ HFI.out)))
                  refine wpQuiet_nil ?_
                  intro _ hw'
                  obtain ⟨xx, rfl⟩ := hw'
                  have yx := xx.ok.1
                  generalize xx.val = w8 at *
                  clear r0 r1 r2 r3 r4 r5
                  go_wp2_with (fail)
                  go_roundg (n2 - (m + 1))
                  case measure => have := HG.out; omega
                  case rel => exact ⟨m + 1, by omega, rfl, by go_num, yx, Lib.hid (by rw [← HI2.out, HTH.out, Bool.true_and])⟩
          · have HF2 : Hid (p.all (thereC l) = true) := Lib.hid (by rw [HR2.out, ← HI.out, List.drop_eq_nil_of_le (by have := N2.out; omega)]; rfl)
            go_wp2_with (fail)
            go_ret
            exact ⟨ret_int (by rw [← HP.out, HF.out, HF2.out]; rfl), y⟩
end Go.Proofs.YtfnkjcodcoehcaaGreatDoor
namespace Go.Proofs.YtfnkjcodcoehcaaGreatDoor
open Go.RowKit
set_option linter.unusedVariables false
set_option linter.unusedSimpArgs false

set_option maxRecDepth 100000 in
set_option maxHeartbeats 800000 in
theorem takes15_any (A : Option Addr) (n c : Nat) (x : List OpS) (w : World) (hn : n = x.length) (h : RdOs w w.heap.size A x) (hb : n ≤ 140737488355328) :
    Calls Tryz.prog 109 #[.slice A n c] w fun e w' => e = .returned (.int .i64 (takesP x)) ∧ ∃ d, w' = w.drewN d := by
  have N := Lib.hid hn
  obtain ⟨R, hR⟩ : ∃ X, takesP x = X := ⟨_, rfl⟩
  rw [hR]
  unfold takesP at hR
  have HR := Lib.hid hR
  clear hn hR
  go_enter Tryz.func109, Tryz.ntmps109
  go_wp2_with (fail)
  go_loopg [3, 4] n (fun g av iv wr => ∃ (m : Nat) (a : Int), m ≤ n ∧ g = n - m ∧ av = .int .i64 a ∧ iv = .int .i64 (m : Int) ∧ (∃ d, wr = w.drewN d) ∧ Hid ((x.drop m).foldl takeStep a = R))
  case atStart => exact ⟨0, 0, by omega, rfl, rfl, rfl, ⟨0, rfl⟩, HR⟩
  case round =>
    obtain ⟨m, a, hm, hg, rfl, rfl, ⟨d, rfl⟩, HI⟩ := hrel
    have HG := Lib.hid hg
    clear hg
    by_cases hlt : m < n
    · have hl1 : m < x.length := by have := N.out; omega
      obtain ⟨ad, o, had0, had, hd1, hx1, hc0⟩ := h.el hl1
      subst had0
      have HD : Hid (x.drop m = o :: x.drop (m + 1)) := Lib.hid (by rw [List.drop_eq_getElem_cons hl1]; rw [List.getElem?_eq_getElem hl1] at hx1; injection hx1 with hx1; rw [hx1])
      obtain ⟨⟨k, nn, r, s, p⟩, Ar, cr, As, cs, Ap, cp⟩ := o
      obtain ⟨r0, r1, r2, r3, r4⟩ := op_cells hc0
      have hw2 : IntKind.i64.wrap ((m:Int) + 1) = (m : Int) + 1 := IntWalk.i64_in _ (by omega)
      clear hc0 hd1 hx1
      by_cases hk : k = 2
      · subst hk
        have HI2 : Hid ((x.drop (m + 1)).foldl takeStep a = R) := Lib.hid (by have := HI.out; rw [HD.out, List.foldl_cons] at this; simpa [takeStep] using this)
        go_wp2_with (fail)
        go_roundg (n - (m + 1))
        case measure => have := HG.out; omega
        case rel => exact ⟨m + 1, a, by omega, rfl, rfl, by go_num, ⟨_, rfl⟩, HI2⟩
      · have hk' : (k == 2) = false := beq_eq_false_iff_ne.2 hk
        obtain ⟨W, hW⟩ : ∃ W, IntKind.i64.wrap (a + nn) = W := ⟨_, rfl⟩
        have HI2 : Hid ((x.drop (m + 1)).foldl takeStep W = R) := Lib.hid (by
          have := HI.out
          rw [HD.out, List.foldl_cons] at this
          have e : takeStep a ⟨⟨k, nn, r, s, p⟩, Ar, cr, As, cs, Ap, cp⟩ = W := by unfold takeStep; rw [if_neg hk]; exact hW
          rwa [e] at this)
        go_wp2_with (fail)
        go_roundg (n - (m + 1))
        case measure => have := HG.out; omega
        case rel => exact ⟨m + 1, W, by omega, rfl, by first | rfl | (rw [← hW]; rfl), by go_num, ⟨_, rfl⟩, HI2⟩
    · have HI9 : Hid (a = R) := Lib.hid (by have := HI.out; rwa [List.drop_of_length_le (by have := N.out; omega)] at this)
      have e := HI9.out
      clear HI HI9
      go_wp2_with (fail)
      go_ret
      subst e
      exact ⟨rfl, _, rfl⟩
end Go.Proofs.YtfnkjcodcoehcaaGreatDoor
