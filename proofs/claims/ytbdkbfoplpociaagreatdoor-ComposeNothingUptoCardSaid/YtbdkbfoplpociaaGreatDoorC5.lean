/- Merged texts: Known20, Great20, RowF, OfLaw, StepParts. -/
import Derived.Test.YtbdkbfoplpociaaGreatDoorK30
import Derived.Test.YtbdkbfoplpociaaGreatDoorK31
import Derived.Test.YtbdkbfoplpociaaGreatDoorC4
import Derived.Test.YtbdkbfoplpociaaGreatDoorK33
import Derived.Test.YtbdkbfoplpociaaGreatDoorK2
import Derived.Test.YtbdkbfoplpociaaGreatDoorK20
import Derived.Test.YtbdkbfoplpociaaGreatDoorK21
import Derived.Test.YtbdkbfoplpociaaGreatDoorK32
namespace Go.Proofs.YtbdkbfoplpociaaGreatDoor
open Go.RowKit
set_option linter.unusedVariables false
set_option linter.unusedSimpArgs false

def xA20 (b0 : Nat) : List OpS := [⟨opI [97, 98] [], some ⟨b0, 0, none⟩, 2, none, 0, none, 0⟩]
def xB20 (b0 : Nat) : List OpS := [⟨opR 1 [], none, 0, none, 0, none, 0⟩, ⟨opI [99] [], some ⟨b0, 0, none⟩, 1, none, 0, none, 0⟩, ⟨opD 1, none, 0, none, 0, none, 0⟩]
def xC20 (b0 : Nat) : List OpS := [⟨opI [97, 99] [], some ⟨b0, 0, none⟩, 2, none, 0, none, 0⟩]
theorem a20_may (b : Nat) : mayO kK19 (xA20 b) = 0 := by kernel_rfl
theorem b20_may (b : Nat) : mayO kK19 (xB20 b) = 0 := by kernel_rfl
theorem a20_comp (b c d : Nat) : mkU (compU kK19 (units (osOf (xA20 b))) (units (osOf (xB20 c)))) = osOf (xC20 d) := by kernel_rfl
theorem a20_size (b c : Nat) : takesU (compU kK19 (units (osOf (xA20 b))) (units (osOf (xB20 c)))) = 0 ∧ makesU (compU kK19 (units (osOf (xA20 b))) (units (osOf (xB20 c)))) = 2 := ⟨by kernel_rfl, by kernel_rfl⟩

set_option maxRecDepth 100000 in
set_option maxHeartbeats 3200000 in
theorem known20_any (w : World) (hT : Lib.Utf8Tabs 1 2 w) :
    Calls Tryz.prog 23 #[] w fun e w' => e = .returned (.bool true) ∧ Below w.heap.size w w' := by
  go_enter Tryz.func23, Tryz.ntmps23
  go_wp2_with (go_at_call 24; refine Hid.out ?_)
  refine Lib.hid ?_
  have y := ext_alloc w (.cells #[.int .i64 1, .bool false, .int .u8 1, .bool false, .bool false, .int .i64 0] 112)
  have rk : RdKy _ _ _ kK19 := Rd.new (enc := Ky.enc) (size := 6) Ky.enc_len w 112 kK19 (cs := #[.int .i64 1, .bool false, .int .u8 1, .bool false, .bool false, .int .i64 0]) rfl rfl
  refine (new_any (some ⟨w.heap.size, 0, none⟩) 1 1 kK19 _ rfl rk (by omega)).mono ?_
  rintro e v1 ⟨y1, ⟨hm, s, rfl, hS⟩ | ⟨hm, rfl⟩⟩
  rotate_left
  · have : mayKs kK19 = true := by decide +kernel
    rw [this] at hm; cases hm
  clear hm rk
  replace y := ext_trans y y1
  clear y1
  go_wp2_with (go_at_call 25; refine Hid.out ?_)
  refine Lib.hid ?_
  have yu1 := ext_alloc v1 (.cells #[.int .i32 97, .int .i32 98] 21)
  have riu1 : RdI32 _ _ _ [97, 98] := Rd.new (enc := encI32) (size := 1) encI32_len v1 21 [97, 98] (cs := #[.int .i32 97, .int .i32 98]) rfl rfl
  have zu1 : (v1.alloc (.cells #[.int .i32 97, .int .i32 98] 21)).heap.size = v1.heap.size + 1 := by simp
  generalize v1.alloc (.cells #[.int .i32 97, .int .i32 98] 21) = u1 at *
  have yu2 := ext_alloc u1 (.cells #[.int .u8 2, .int .i64 0, .slice (some ⟨v1.heap.size, 0, none⟩) 2 2, .slice none 0 0, .slice none 0 0] 40)
  have rdxA20 := rd_ops u1 (xA20 (v1.heap.size)) (fun z hz => by
    simp only [xA20, List.mem_cons, List.not_mem_nil, or_false] at hz
    subst hz
    exact ⟨riu1, Rd.nil, Rd.nil⟩) (cs := #[.int .u8 2, .int .i64 0, .slice (some ⟨v1.heap.size, 0, none⟩) 2 2, .slice none 0 0, .slice none 0 0]) rfl (b := v1.heap.size + 1) zu1.symm
  have zu2 : (u1.alloc (.cells #[.int .u8 2, .int .i64 0, .slice (some ⟨v1.heap.size, 0, none⟩) 2 2, .slice none 0 0, .slice none 0 0] 40)).heap.size = v1.heap.size + 2 := by rw [World.size_alloc, zu1]
  generalize u1.alloc (.cells #[.int .u8 2, .int .i64 0, .slice (some ⟨v1.heap.size, 0, none⟩) 2 2, .slice none 0 0, .slice none 0 0] 40) = u2 at *
  have atxA20 : OpsC u2 (some ⟨v1.heap.size + 1, 0, none⟩) 1 1 (xA20 (v1.heap.size)) := ⟨⟨rdxA20, rfl, (fun z hz => by
    simp only [xA20, List.mem_cons, List.not_mem_nil, or_false] at hz
    subst hz; exact ok_small _ rfl rfl (by simp [opR, opI, opD])), by omega⟩, Nat.le_refl _, by unfold maxLen; omega, (fun z hz => by
    simp only [xA20, List.mem_cons, List.not_mem_nil, or_false] at hz
    subst hz; (unfold capO maxLen; simp [opR, opI, opD]))⟩
  have yu3 := ext_alloc u2 (.cells #[.int .i32 99] 21)
  have riu3 : RdI32 _ _ _ [99] := Rd.new (enc := encI32) (size := 1) encI32_len u2 21 [99] (cs := #[.int .i32 99]) rfl (b := v1.heap.size + 2) zu2.symm
  have zu3 : (u2.alloc (.cells #[.int .i32 99] 21)).heap.size = v1.heap.size + 3 := by rw [World.size_alloc, zu2]
  generalize u2.alloc (.cells #[.int .i32 99] 21) = u3 at *
  have yu4 := ext_alloc u3 (.cells #[.int .u8 1, .int .i64 1, .slice none 0 0, .slice none 0 0, .slice none 0 0, .int .u8 2, .int .i64 0, .slice (some ⟨v1.heap.size + 2, 0, none⟩) 1 1, .slice none 0 0, .slice none 0 0, .int .u8 3, .int .i64 1, .slice none 0 0, .slice none 0 0, .slice none 0 0] 40)
  have rdxB20 := rd_ops u3 (xB20 (v1.heap.size + 2)) (fun z hz => by
    simp only [xB20, List.mem_cons, List.not_mem_nil, or_false] at hz
    rcases hz with rfl | rfl | rfl
    · exact ⟨Rd.nil, Rd.nil, Rd.nil⟩
    · exact ⟨riu3, Rd.nil, Rd.nil⟩
    · exact ⟨Rd.nil, Rd.nil, Rd.nil⟩) (cs := #[.int .u8 1, .int .i64 1, .slice none 0 0, .slice none 0 0, .slice none 0 0, .int .u8 2, .int .i64 0, .slice (some ⟨v1.heap.size + 2, 0, none⟩) 1 1, .slice none 0 0, .slice none 0 0, .int .u8 3, .int .i64 1, .slice none 0 0, .slice none 0 0, .slice none 0 0]) rfl (b := v1.heap.size + 3) zu3.symm
  have zu4 : (u3.alloc (.cells #[.int .u8 1, .int .i64 1, .slice none 0 0, .slice none 0 0, .slice none 0 0, .int .u8 2, .int .i64 0, .slice (some ⟨v1.heap.size + 2, 0, none⟩) 1 1, .slice none 0 0, .slice none 0 0, .int .u8 3, .int .i64 1, .slice none 0 0, .slice none 0 0, .slice none 0 0] 40)).heap.size = v1.heap.size + 4 := by rw [World.size_alloc, zu3]
  generalize u3.alloc (.cells #[.int .u8 1, .int .i64 1, .slice none 0 0, .slice none 0 0, .slice none 0 0, .int .u8 2, .int .i64 0, .slice (some ⟨v1.heap.size + 2, 0, none⟩) 1 1, .slice none 0 0, .slice none 0 0, .int .u8 3, .int .i64 1, .slice none 0 0, .slice none 0 0, .slice none 0 0] 40) = u4 at *
  have atxB20 : OpsC u4 (some ⟨v1.heap.size + 3, 0, none⟩) 3 3 (xB20 (v1.heap.size + 2)) := ⟨⟨rdxB20, rfl, (fun z hz => by
    simp only [xB20, List.mem_cons, List.not_mem_nil, or_false] at hz
    rcases hz with rfl | rfl | rfl <;> exact ok_small _ rfl rfl (by simp [opR, opI, opD])), by omega⟩, Nat.le_refl _, by unfold maxLen; omega, (fun z hz => by
    simp only [xB20, List.mem_cons, List.not_mem_nil, or_false] at hz
    rcases hz with rfl | rfl | rfl <;> (unfold capO maxLen; simp [opR, opI, opD]))⟩
  have yq := ext_trans y (ext_trans yu1 (ext_trans yu2 (ext_trans yu3 yu4)))
  have Y3 := Lib.hid yq
  have hS3 := hS.ext (ext_trans yu1 (ext_trans yu2 (ext_trans yu3 yu4)))
  refine (composeOk_any s kK19 (some ⟨v1.heap.size + 1, 0, none⟩) (some ⟨v1.heap.size + 3, 0, none⟩) 1 1 3 3 (xA20 (v1.heap.size)) (xB20 (v1.heap.size + 2)) _ (atxA20.ext (ext_trans yu3 yu4)) atxB20 hS3 (by decide) (Utf8Tabs_below hT Y3.out) (a20_may _) (b20_may _) (by show 3 ≤ _; omega) (by show 4 ≤ _; omega) (by rw [(a20_size _ _).1]; omega) (by rw [(a20_size _ _).2]; omega)).mono ?_
  rintro e w5 ⟨A5, c5, x5, rfl, e5, o5, y5⟩
  have O_x5 := Lib.hid o5
  have O_E : Hid (osOf x5 = osOf (xC20 w5.heap.size)) := Lib.hid (e5.trans (a20_comp _ _ _))
  have Y5 := Lib.hid (ext_trans Y3.out y5)
  clear y5 o5 e5 yq hS3 hS y yu1 yu2 yu3 yu4
  go_wp2_with (go_at_call 26; refine Hid.out ?_)
  refine Lib.hid ?_
  have yt1 := ext_alloc w5 (.cells #[.int .i32 97, .int .i32 99] 21)
  have rit1 : RdI32 _ _ _ [97, 99] := Rd.new (enc := encI32) (size := 1) encI32_len w5 21 [97, 99] (cs := #[.int .i32 97, .int .i32 99]) rfl rfl
  have zt1 : (w5.alloc (.cells #[.int .i32 97, .int .i32 99] 21)).heap.size = w5.heap.size + 1 := by simp
  generalize w5.alloc (.cells #[.int .i32 97, .int .i32 99] 21) = t1 at *
  have yt2 := ext_alloc t1 (.cells #[.int .u8 2, .int .i64 0, .slice (some ⟨w5.heap.size, 0, none⟩) 2 2, .slice none 0 0, .slice none 0 0] 40)
  have rdxC20 := rd_ops t1 (xC20 (w5.heap.size)) (fun z hz => by
    simp only [xC20, List.mem_cons, List.not_mem_nil, or_false] at hz
    subst hz
    exact ⟨rit1, Rd.nil, Rd.nil⟩) (cs := #[.int .u8 2, .int .i64 0, .slice (some ⟨w5.heap.size, 0, none⟩) 2 2, .slice none 0 0, .slice none 0 0]) rfl (b := w5.heap.size + 1) zt1.symm
  have zt2 : (t1.alloc (.cells #[.int .u8 2, .int .i64 0, .slice (some ⟨w5.heap.size, 0, none⟩) 2 2, .slice none 0 0, .slice none 0 0] 40)).heap.size = w5.heap.size + 2 := by rw [World.size_alloc, zt1]
  generalize t1.alloc (.cells #[.int .u8 2, .int .i64 0, .slice (some ⟨w5.heap.size, 0, none⟩) 2 2, .slice none 0 0, .slice none 0 0] 40) = t2 at *
  have atxC20 : OpsC t2 (some ⟨w5.heap.size + 1, 0, none⟩) 1 1 (xC20 (w5.heap.size)) := ⟨⟨rdxC20, rfl, (fun z hz => by
    simp only [xC20, List.mem_cons, List.not_mem_nil, or_false] at hz
    subst hz; exact ok_small _ rfl rfl (by simp [opR, opI, opD])), by omega⟩, Nat.le_refl _, by unfold maxLen; omega, (fun z hz => by
    simp only [xC20, List.mem_cons, List.not_mem_nil, or_false] at hz
    subst hz; (unfold capO maxLen; simp [opR, opI, opD]))⟩
  refine (same15D (O_x5.out.at_.ext (ext_trans yt1 yt2)) atxC20.at_ (decide_eq_true (O_E.out.trans (by rfl)))).mono ?_
  have yq := ext_trans Y5.out (ext_trans yt1 yt2)
  rintro e wz ⟨rfl, y9⟩
  have yy := ext_trans yq y9
  clear yq y9
  go_wp2_with (fail)
  go_ret
  exact ⟨rfl, yy⟩
end Go.Proofs.YtbdkbfoplpociaaGreatDoor
namespace Go.Proofs.YtbdkbfoplpociaaGreatDoor
open Go.RowKit
set_option linter.unusedVariables false
set_option linter.unusedSimpArgs false

def Great20 (n0 : Nat) (L : List SX) (w : World) (e : Ending) (w' : World) : Prop :=
  ∃ b : Bool, e = .returned (.bool b) ∧ (b = false → n0 ≤ 64 ∧ sumX L ≤ 5000) ∧ ∃ d, w' = w.drewN d
set_option maxRecDepth 100000 in
set_option maxHeartbeats 1600000 in
theorem great20_any (A0 A2 : Option Addr) (n0 c0 n c : Nat) (L : List SX) (w : World) (hn : n = L.length) (h : Rd SX.enc 1 w w.heap.size A2 L) (hb : n ≤ 1000) (h0 : n0 ≤ 140737488355328)
    (hs : ∀ s ∈ L, RdOp w w.heap.size s.A s.l ∧ s.l.length ≤ 140737488355328) (hz : sumX L ≤ 9223372036854775807) (hz1 : ∀ s ∈ L, szX s.l ≤ 4611686018427387904) :
    Calls Tryz.prog 21 #[.slice A0 n0 c0, .slice A2 n c] w (Great20 n0 L w) := by
  have N := Lib.hid hn
  have HS := Lib.hid hs
  have HZ := Lib.hid hz
  have HZ1 := Lib.hid hz1
  clear hn hs hz hz1
  go_enter Tryz.func21, Tryz.ntmps21
  go_wp2_with (fail)
  go_loopg [5, 9] n (fun g av iv wr => ∃ (m a : Nat), m ≤ n ∧ g = n - m ∧ a = sumX (L.take m) ∧ av = .int .i64 (a : Int) ∧ iv = .int .i64 (m : Int) ∧ ∃ d, wr = w.drewN d)
  case atStart => exact ⟨0, 0, by omega, rfl, rfl, rfl, rfl, 0, rfl⟩
  case round =>
    obtain ⟨m, a, hm, hg, ha, rfl, rfl, d3, rfl⟩ := hrel
    have HG := Lib.hid hg
    have HA := Lib.hid ha
    clear hg ha
    by_cases hlt : m < n
    · obtain ⟨ad, z, had0, had, _, hx1, hc0⟩ := h.el (i := m) (by have := N.out; omega)
      subst had0
      obtain ⟨f1, f2⟩ := HS.out z (List.mem_of_getElem? hx1)
      have TK : Hid (sumX (L.take (m + 1)) = a + szX z.l) := Lib.hid (by rw [HA.out]; exact sum_take1 (fun s : SX => szX s.l) hx1)
      have TB : Hid (a + szX z.l ≤ 9223372036854775807) := Lib.hid (by rw [← TK.out]; exact Nat.le_trans (sum_take_le (fun s : SX => szX s.l) L (m + 1)) HZ.out)
      have Z1 := Lib.hid (HZ1.out z (List.mem_of_getElem? hx1))
      obtain ⟨A3, c3, x⟩ := z
      simp only at f1 f2 TK TB Z1
      have q0 : _ = some (Value.slice A3 x.length c3) := hc0 0 _ rfl
      rw [add_zero', Nat.mul_one] at q0
      obtain ⟨n3, hn3⟩ : ∃ n3, n3 = x.length := ⟨_, rfl⟩
      rw [← hn3] at q0 f2
      have N3 := Lib.hid hn3
      have hw2 : IntKind.i64.wrap ((m:Int) + 1) = (m : Int) + 1 := IntWalk.i64_in _ (by omega)
      clear hn3 hx1 hc0
      go_wp2_with (go_at_call 86; refine Hid.out ?_)
      refine Lib.hid ?_
      refine (sizeX2_any A3 n3 c3 x (w.drewN d3) N3.out ⟨f1.1.drewN _, fun q hq => ⟨(f1.2 q hq).1.drewN _, (f1.2 q hq).2.1.drewN _, (f1.2 q hq).2.2.drewN _⟩⟩ f2 (by have := Z1.out; omega)).mono ?_
      obtain ⟨sz, hsz⟩ : ∃ X, szX x = X := ⟨_, rfl⟩
      clear Z1
      rw [hsz] at TK TB ⊢
      rintro e w2 ⟨rfl, d2, rfl⟩
      have hw4 : IntKind.i64.wrap ((a:Int) + (sz : Int)) = (a : Int) + sz := IntWalk.i64_in _ (by have := TB.out; omega)
      clear hsz
      go_wp2_with (fail)
      go_roundg (n - (m + 1))
      case measure => have := HG.out; omega
      case rel => exact ⟨m + 1, a + sz, by omega, rfl, TK.out.symm, by go_num, by go_num, _, (by first | rfl | exact World.drewN_drewN _ _ _)⟩
    · have HA9 : Hid (a = sumX L) := Lib.hid (by have := HA.out; rwa [List.take_of_length_le (by have := N.out; omega)] at this)
      have AB : a ≤ 9223372036854775807 := by rw [HA9.out]; exact HZ.out
      by_cases h64 : (64 : Int) < (n0 : Int)
      · go_wp2_with (fail)
        go_ret
        exact ⟨true, rfl, (by intro h; cases h), _, rfl⟩
      · go_wp2_with (fail)
        go_ret
        exact ⟨decide ((5000 : Int) < (a : Int)), rfl, fun h5 => ⟨by omega, by have := of_decide_eq_false h5; rw [← HA9.out]; omega⟩, _, rfl⟩
end Go.Proofs.YtbdkbfoplpociaaGreatDoor
namespace Go.Proofs.YtbdkbfoplpociaaGreatDoor
open Go.RowKit
set_option linter.unusedVariables false
set_option linter.unusedSimpArgs false

/-- what may be written: F, and the row -/
def RowG (F : Nat → Prop) (v : Value) : Nat → Prop := fun k => F k ∨ wb v = some k
structure RowF (w : World) (F : Nat → Prop) (B : Nat) (v : Value) (D : List OpS) : Prop where
  own : OwOs w B v D
  parts : ∀ x ∈ D, PartF w (RowG F v) x
section
variable {w w' : World} {F : Nat → Prop} {B : Nat} {v v' : Value} {D M : List OpS}
theorem RowF.nil (w : World) (F : Nat → Prop) (B : Nat) : RowF w F B (.slice none 0 0) [] := ⟨Ow.nil _ _, fun x hx => by cases hx⟩
theorem RowF.ext (h : RowF w F B v D) (y : Below w.heap.size w w') : RowF w' F B v D := ⟨h.own.below y (Nat.le_refl _), fun x hx => (h.parts x hx).grow (Grow.of y)⟩
theorem row_grow (g : w.grownBy w' (wb v)) (hv : v' = v ∧ w' = w ∨ wb v' = wb v ∨ wb v' = some w.heap.size) : Grow w (RowG F v) w' (RowG F v') :=
  ⟨g.os, g.tape, g.output, g.size, fun j hj hn => g.block j hj (fun e => hn (.inr e.symm)), fun k hk => by
    rcases hk with hk | hk
    · exact .inl (.inl hk)
    · rcases hv with ⟨rfl, _⟩ | h | h
      · exact .inl (.inr hk)
      · exact .inl (.inr (h ▸ hk))
      · rw [h] at hk; injection hk with hk; exact .inr (by omega)⟩
theorem RowF.app (h : RowF w F B v D) (hm : ∀ x ∈ M, PartF w (RowG F v) x) (ho : OwOs w' B v' (D ++ M)) (g : w.grownBy w' (wb v)) (hv : v' = v ∧ w' = w ∨ wb v' = wb v ∨ wb v' = some w.heap.size) : RowF w' F B v' (D ++ M) :=
  ⟨ho, fun x hx => by
    rcases List.mem_append.1 hx with hx | hx
    · exact (h.parts x hx).grow (row_grow g hv)
    · exact (hm x hx).grow (row_grow g hv)⟩
/-- parts that were there ahead of the row are off it -/
theorem PartF.fresh {w0 : World} {x : OpS} (h : PartF w0 F x) (y : Below w0.heap.size w0 w) (hv : ∀ k, wb v = some k → w0.heap.size ≤ k) : PartF w (RowG F v) x := by
  have p := h.grow (Grow.of (F := F) y)
  have off : ∀ {α : Type} {enc : α → List Value} {size : Nat} {A : Option Addr} {l : List α}, Rd enc size w0 w0.heap.size A l → OffF F A l.length → OffF (RowG F v) A l.length := fun hr h1 ad e hl hk => by
    rcases hk with hk | hk
    · exact h1 ad e hl hk
    · obtain ⟨ad', e', hb, _⟩ := hr hl
      rw [e] at e'; injection e' with e'; subst e'
      have := hv _ hk; omega
  exact ⟨⟨p.1.1, off h.1.1 h.1.2⟩, ⟨p.2.1.1, off h.2.1.1 h.2.1.2⟩, ⟨p.2.2.1, off h.2.2.1 h.2.2.2⟩⟩
/-- a row new to what was there -/
theorem RowF.low (h : RowF w F B v D) : ∀ k, wb v = some k → B ≤ k := fun k hk => (h.own.wb_lt k hk).1
theorem RowF.set {g n c i j : Nat} {u : Value} {x' : OpS} (h : RowF w F B (.slice (some ⟨g, 0, none⟩) n c) D) (hi : i < D.length) (hj : j < 5) (he : x'.enc = D[i].enc.set j u) (hp : PartF w (RowG F (.slice (some ⟨g, 0, none⟩) n c)) x') :
    RowF (w.setCell ⟨g, i * 5 + j, none⟩ u) F B (.slice (some ⟨g, 0, none⟩) n c) (D.set i x') := by
  have hc : ∃ c', c = c' + 1 := by
    obtain ⟨A', c', hv, h1, _⟩ := h.own.form
    injection hv with _ hn hcc
    exact ⟨c - 1, by omega⟩
  obtain ⟨c', rfl⟩ := hc
  have gr : Grow w (RowG F (.slice (some ⟨g, 0, none⟩) n (c' + 1))) (w.setCell ⟨g, i * 5 + j, none⟩ u) (RowG F (.slice (some ⟨g, 0, none⟩) n (c' + 1))) := setCell_below g (i * 5 + j) u (.inr rfl) 0
  exact ⟨Ow.setEl OpS.enc_len h.own hi hj he, fun x hx => by
    rcases List.mem_or_eq_of_mem_set hx with hx | rfl
    · exact (h.parts x hx).grow gr
    · exact hp.grow gr⟩
end
end Go.Proofs.YtbdkbfoplpociaaGreatDoor
namespace Go.Proofs.YtbdkbfoplpociaaGreatDoor
set_option linter.unusedVariables false
set_option linter.unusedSimpArgs false

/-- what is told without a retain leaves alone what is done -/
theorem tell_gap : ∀ (g : List Opd) (m : Mk) (D : List Opd), (∀ o ∈ g, o.k ≠ 1) → g.foldl tellO ⟨D, m.ins, m.gone⟩ = ⟨D, (g.foldl tellO m).ins, (g.foldl tellO m).gone⟩
  | [], m, D, _ => rfl
  | o :: g, m, D, h => by
    rw [List.foldl_cons, List.foldl_cons]
    have h1 : o.k ≠ 1 := h o (by simp)
    have e : tellO ⟨D, m.ins, m.gone⟩ o = ⟨D, (tellO m o).ins, (tellO m o).gone⟩ := by
      unfold tellO
      rw [if_neg h1, if_neg h1]
      split
      · unfold mkInsert; split <;> rfl
      · rfl
    rw [e]
    exact tell_gap g (tellO m o) D (fun z hz => h z (List.mem_cons_of_mem _ hz))
/-- the ops of a gap, as rubricref16.gap makes them -/
def gapP (g : List Opd) : List Opd := mkGap (ofM g)
theorem of_gap {pre g : List Opd} (hi : (ofM pre).ins = []) (hz : (ofM pre).gone = 0) (hg : ∀ o ∈ g, o.k ≠ 1) : ofM (pre ++ g) = ⟨(ofM pre).done, (ofM g).ins, (ofM g).gone⟩ := by
  have e : ofM (pre ++ g) = g.foldl tellO (ofM pre) := by unfold ofM; rw [List.foldl_append]
  rw [e]
  have e2 : ofM pre = ⟨(ofM pre).done, Mk.new.ins, Mk.new.gone⟩ := by
    show ofM pre = ⟨(ofM pre).done, [], 0⟩
    rw [← hi, ← hz]
  rw [e2]
  exact tell_gap g Mk.new _ hg
theorem gap_ends {pre g : List Opd} (hi : (ofM pre).ins = []) (hz : (ofM pre).gone = 0) (hg : ∀ o ∈ g, o.k ≠ 1) : (ofM (pre ++ g)).done ++ mkGap (ofM (pre ++ g)) = (ofM pre).done ++ gapP g := by
  rw [of_gap hi hz hg]; rfl
/-- behind a retain -/
theorem of_ret {pre g : List Opd} {o : Opd} (hi : (ofM pre).ins = []) (hz : (ofM pre).gone = 0) (hg : ∀ z ∈ g, z.k ≠ 1) (hk : o.k = 1) (hn : 1 ≤ o.n) :
    ofM (pre ++ g ++ [o]) = ⟨addR ((ofM pre).done ++ gapP g) o.n o.p, [], 0⟩ := by
  rw [ofM_snoc]
  unfold tellO
  rw [if_pos hk]
  unfold mkRetain
  rw [if_neg (by omega), gap_ends hi hz hg]
/-- at the end -/
theorem of_end {pre g : List Opd} (hi : (ofM pre).ins = []) (hz : (ofM pre).gone = 0) (hg : ∀ z ∈ g, z.k ≠ 1) : mkOps (ofM (pre ++ g)) = cutR ((ofM pre).done ++ gapP g) := by
  unfold mkOps; rw [gap_ends hi hz hg]
theorem gap_ins {g : List Opd} {o : Opd} (ho : isOp o) (hk : o.k = 2) : ofM (g ++ [o]) = { ofM g with ins := addI (ofM g).ins o.r o.s } := by
  obtain ⟨_, hr⟩ := opI_of ho hk
  rw [ofM_snoc]; unfold tellO; rw [if_neg (by rw [hk]; decide), if_pos hk]
  unfold mkInsert; rw [if_neg hr]
/-- the gap grows: at its end into the last insert, or behind it -/
theorem addI_last {d : List Opd} {a : Opd} {r : List Int} : addI (d ++ [a]) r a.s = d ++ [{ a with r := a.r ++ r }] := by
  unfold addI; simp
theorem addI_new {d : List Opd} {o : Opd} (ho : isOp o) (hk : o.k = 2) (h : ∀ a, d.getLast? = some a → a.s ≠ o.s) : addI d o.r o.s = d ++ [o] := by
  obtain ⟨e, _⟩ := opI_of ho hk
  unfold addI
  cases hd : d.getLast? with
  | none => simp only; rw [← e]
  | some a => simp only; rw [if_neg (h a hd), ← e]
theorem addR_last {d : List Opd} {a : Opd} {n : Int} (hk : a.k = 1) : addR (d ++ [a]) n a.p = d ++ [{ a with n := IntKind.i64.wrap (a.n + n) }] := by
  unfold addR; simp [hk]
theorem addR_new {d : List Opd} {o : Opd} (ho : isOp o) (hk : o.k = 1) (h : ∀ a, d.getLast? = some a → ¬ (a.k = 1 ∧ a.p = o.p)) : addR d o.n o.p = d ++ [o] := by
  obtain ⟨e, _⟩ := opR_of ho hk
  unfold addR
  cases hd : d.getLast? with
  | none => simp only; rw [← e]
  | some a => simp only; rw [if_neg (h a hd), ← e]
end Go.Proofs.YtbdkbfoplpociaaGreatDoor
namespace Go.Proofs.YtbdkbfoplpociaaGreatDoor
open Go.RowKit
set_option linter.unusedVariables false
set_option linter.unusedSimpArgs false

section
variable {ops : Array Oper} {rest : List Oper} {o : Oper} {a : Act} {Q : Exit → Act → World → Prop} {w : World} {base : Nat} {v : Value} {K : Act → World → Prop} {E : Prop}
theorem step_at {l m : List At} (hgd : o.guard = none) (s x : Operand)
    (ho : o.op = .call { callee := .builtin .append, args := #[s, x], argTypes := #[38, 38] })
    (hsv : a.eval s = v) (hown : OwAt w base v l) (B : Nat) (A : Option Addr) (c n : Nat) (hx : a.eval x = .slice A n c) (hn : n = m.length) (hr : RdAt w B A m)
    (hb : l.length + m.length ≤ 1000000000000) (hbase : base ≤ w.heap.size)
    (h : ∀ v' w', OwAt w' base v' (l ++ m) → w.grownBy w' (wb v) → (v' = v ∧ w' = w ∨ wb v' = wb v ∨ wb v' = some w.heap.size) → K (a.put o.dst v') w') :
    if Region.wanted o (yielded ops a.tmps) = true then Oper.wp Tryz.prog o a w K Q else E := by
  have hw : Region.wanted o (yielded ops a.tmps) = true := by simp [Region.wanted, hgd]
  rw [if_pos hw]
  obtain ⟨i0, hi0, hz0, hz1, hz2⟩ := info_parts Tryz.infoAt
  exact wp_app s x _ ho i0 _ 48 Tryz.slAt hi0 hz0 hz1 hz2 rfl (by omega) At.enc_len At.enc_one hsv hown B A c n hx hn hr (by simp only [maxLen]; omega) (by omega) hbase h
theorem step_ch {l m : List Ch} (hgd : o.guard = none) (s x : Operand)
    (ho : o.op = .call { callee := .builtin .append, args := #[s, x], argTypes := #[37, 37] })
    (hsv : a.eval s = v) (hown : OwCh w base v l) (B : Nat) (A : Option Addr) (c n : Nat) (hx : a.eval x = .slice A n c) (hn : n = m.length) (hr : RdCh w B A m)
    (hb : l.length + m.length ≤ 1000000000000) (hbase : base ≤ w.heap.size)
    (h : ∀ v' w', OwCh w' base v' (l ++ m) → w.grownBy w' (wb v) → (v' = v ∧ w' = w ∨ wb v' = wb v ∨ wb v' = some w.heap.size) → K (a.put o.dst v') w') :
    if Region.wanted o (yielded ops a.tmps) = true then Oper.wp Tryz.prog o a w K Q else E := by
  have hw : Region.wanted o (yielded ops a.tmps) = true := by simp [Region.wanted, hgd]
  rw [if_pos hw]
  obtain ⟨i0, hi0, hz0, hz1, hz2⟩ := info_parts Tryz.infoCh
  exact wp_app s x _ ho i0 _ 56 Tryz.slCh hi0 hz0 hz1 hz2 rfl (by omega) Ch.enc_len Ch.enc_one hsv hown B A c n hx hn hr (by simp only [maxLen]; omega) (by omega) hbase h
theorem step_i32_0 {m : List Int} (hgd : o.guard = none) (s x : Operand)
    (ho : o.op = .call { callee := .builtin .append, args := #[s, x], argTypes := #[36, 36] })
    (hsv : ∃ A0, a.eval s = .slice A0 0 0) (base B : Nat) (A : Option Addr) (c n : Nat) (hx : a.eval x = .slice A n c) (hn : n = m.length) (hr : RdI32 w B A m)
    (hb : m.length ≤ 1000000000) (hbase : base ≤ w.heap.size)
    (h : ∀ v' w', OwI32 w' base v' m → w.grownBy w' none → K (a.put o.dst v') w') :
    if Region.wanted o (yielded ops a.tmps) = true then Oper.wp Tryz.prog o a w K Q else E := by
  obtain ⟨A0, e⟩ := hsv
  refine step_i32 (l := []) (m := m) hgd s x ho e (Ow.empty _ base _) B A c n hx hn hr (by simp only [List.length_nil]; omega) hbase ?_
  intro v' w' h1 h2 _
  have e2 : wb (.slice A0 0 0) = none := by cases A0 <;> rfl
  rw [e2] at h2
  exact h v' w' h1 h2
theorem step_at_0 {m : List At} (hgd : o.guard = none) (s x : Operand)
    (ho : o.op = .call { callee := .builtin .append, args := #[s, x], argTypes := #[38, 38] })
    (hsv : ∃ A0, a.eval s = .slice A0 0 0) (base B : Nat) (A : Option Addr) (c n : Nat) (hx : a.eval x = .slice A n c) (hn : n = m.length) (hr : RdAt w B A m)
    (hb : m.length ≤ 1000000000) (hbase : base ≤ w.heap.size)
    (h : ∀ v' w', OwAt w' base v' m → w.grownBy w' none → K (a.put o.dst v') w') :
    if Region.wanted o (yielded ops a.tmps) = true then Oper.wp Tryz.prog o a w K Q else E := by
  obtain ⟨A0, e⟩ := hsv
  refine step_at (l := []) (m := m) hgd s x ho e (Ow.empty _ base _) B A c n hx hn hr (by simp only [List.length_nil]; omega) hbase ?_
  intro v' w' h1 h2 _
  have e2 : wb (.slice A0 0 0) = none := by cases A0 <;> rfl
  rw [e2] at h2
  exact h v' w' h1 h2
theorem step_ch_0 {m : List Ch} (hgd : o.guard = none) (s x : Operand)
    (ho : o.op = .call { callee := .builtin .append, args := #[s, x], argTypes := #[37, 37] })
    (hsv : ∃ A0, a.eval s = .slice A0 0 0) (base B : Nat) (A : Option Addr) (c n : Nat) (hx : a.eval x = .slice A n c) (hn : n = m.length) (hr : RdCh w B A m)
    (hb : m.length ≤ 1000000000) (hbase : base ≤ w.heap.size)
    (h : ∀ v' w', OwCh w' base v' m → w.grownBy w' none → K (a.put o.dst v') w') :
    if Region.wanted o (yielded ops a.tmps) = true then Oper.wp Tryz.prog o a w K Q else E := by
  obtain ⟨A0, e⟩ := hsv
  refine step_ch (l := []) (m := m) hgd s x ho e (Ow.empty _ base _) B A c n hx hn hr (by simp only [List.length_nil]; omega) hbase ?_
  intro v' w' h1 h2 _
  have e2 : wb (.slice A0 0 0) = none := by cases A0 <;> rfl
  rw [e2] at h2
  exact h v' w' h1 h2
end
end Go.Proofs.YtbdkbfoplpociaaGreatDoor
