/- Merged texts: Great23, Known23. -/
import Derived.Test.YtipoeidmblnbbaaGreatDoorPk27
import Derived.Test.YtipoeidmblnbbaaGreatDoorPk2
import Derived.Test.YtipoeidmblnbbaaGreatDoorPk35
import Derived.Test.YtipoeidmblnbbaaGreatDoorPk24
import Derived.Test.YtipoeidmblnbbaaGreatDoorPk18
/- The walk of rubriclaw23.great. -/
namespace Go.Proofs.YtipoeidmblnbbaaGreatDoor
open Go.RowKit
set_option linter.unusedVariables false
set_option linter.unusedSimpArgs false

/-- a slice of cells as an element of a slice -/
structure DocS where
  A : Option Addr
  n : Nat
  c : Nat
  d : List ClS
def DocS.enc (x : DocS) : List Value := [.slice x.A x.n x.c]
theorem DocS.enc_len (x : DocS) : x.enc.length = 1 := rfl
def GreatDs (n0 : Nat) (L : List DocS) (w : World) (e : Ending) (w' : World) : Prop :=
  ∃ b : Bool, e = .returned (.bool b) ∧ (b = false → n0 ≤ 64 ∧ ∀ x ∈ L, x.n ≤ 400 ∧ ∀ c ∈ x.d, c.c.s.length ≤ 64) ∧ ∃ d, w' = w.drewN d
set_option maxRecDepth 100000 in
set_option maxHeartbeats 1600000 in
theorem great23_any (A0 A1 : Option Addr) (n0 c0 n c : Nat) (L : List DocS) (w : World) (hn : n = L.length) (h : Rd DocS.enc 1 w w.heap.size A1 L) (hb : n ≤ 1000) (h0 : n0 ≤ 140737488355328)
    (hd : ∀ x ∈ L, x.n = x.d.length ∧ RdCl w w.heap.size x.A x.d ∧ x.n ≤ 140737488355328 ∧ ∀ y ∈ x.d, y.c.s.length ≤ 140737488355328) :
    Calls Tryz.prog 22 #[.slice A0 n0 c0, .slice A1 n c] w (GreatDs n0 L w) := by
  have N := Lib.hid hn
  have HR := Lib.hid h
  have HD := Lib.hid hd
  clear hn h hd
  go_enter Tryz.func22, Tryz.ntmps22
  go_wp2_with (fail)
  go_loopg [5, 8] n (fun g xv iv wr => ∃ (m : Nat), m ≤ n ∧ g = n - m ∧ iv = .int .i64 (m : Int) ∧ (∃ d, wr = w.drewN d) ∧ Hid (∀ x ∈ L.take m, x.n ≤ 400 ∧ ∀ c ∈ x.d, c.c.s.length ≤ 64))
  case atStart => exact ⟨0, by omega, rfl, rfl, ⟨0, rfl⟩, Lib.hid (by simp)⟩
  case round =>
    obtain ⟨m, hm, hg, rfl, ⟨d, rfl⟩, HI⟩ := hrel
    have HG := Lib.hid hg
    clear hg
    by_cases hlt : m < n
    · have hl1 : m < L.length := by have := N.out; omega
      obtain ⟨ad, o, rfl, had, hd1, hx1, hc0⟩ := HR.out.el hl1
      have hmem := List.mem_of_getElem? hx1
      have g2 := Lib.hid (HD.out o hmem)
      have HT : Hid (L.take (m + 1) = L.take m ++ [o]) := Lib.hid (by rw [List.take_add_one, hx1]; rfl)
      have z0 : w.cell? (ad.add (m * 1)) = some (.slice o.A o.n o.c) := by have := hc0 0 _ rfl; rwa [add_zero'] at this
      rw [Nat.mul_one] at z0
      have hlt' : (m : Int) < (n : Int) := by omega
      have hw2 : IntKind.i64.wrap ((m:Int) + 1) = (m : Int) + 1 := IntWalk.i64_in _ (by omega)
      obtain ⟨A, no, co, dd⟩ := o
      clear hc0 hx1 hd1 hmem hl1
      go_wp2_with (go_at_call 11; refine Hid.out ?_)
      refine Lib.hid ?_
      refine (great18_any A no co dd 400 _ g2.out.1 (by have := g2.out.2.1; exact ⟨this.1.drewN _, fun x hx => (this.2 x hx).drewN _⟩) g2.out.2.2.1 g2.out.2.2.2).mono ?_
      rintro e w1 ⟨g1, rfl, h1, x1, rfl⟩
      cases g1 with
      | true =>
        clear h1
        go_wp2_with (fail)
        go_ret
        exact ⟨true, rfl, (by intro h; cases h), _, (by first | exact World.drewN_drewN _ _ _ | rfl)⟩
      | false =>
        have h2 := h1 rfl
        have HI2 : Hid (∀ x ∈ L.take (m + 1), x.n ≤ 400 ∧ ∀ c ∈ x.d, c.c.s.length ≤ 64) := Lib.hid (fun x hx => by
          rw [HT.out] at hx
          rcases List.mem_append.1 hx with hx | hx
          · exact HI.out x hx
          · simp at hx; subst hx
            exact ⟨by have := h2.1; simp only; omega, h2.2⟩)
        clear h1 h2
        go_wp2_with (fail)
        go_roundg (n - (m + 1))
        case measure => have := HG.out; omega
        case rel => exact ⟨m + 1, by omega, rfl, by go_num, ⟨_, (by first | exact World.drewN_drewN _ _ _ | rfl)⟩, HI2⟩
    · have hlt' : ¬ (m : Int) < (n : Int) := by omega
      have HI2 := Lib.hid HI.out
      rw [List.take_of_length_le (by have := N.out; omega)] at HI2
      by_cases h64 : (64 : Int) < (n0 : Int)
      · go_wp2_with (fail)
        go_ret
        exact ⟨true, rfl, (by intro h; cases h), _, rfl⟩
      · go_wp2_with (fail)
        go_ret
        exact ⟨false, rfl, fun _ => ⟨by omega, HI2.out⟩, _, rfl⟩
end Go.Proofs.YtipoeidmblnbbaaGreatDoor
/- The walk of rubriclaw23.known. -/
namespace Go.Proofs.YtipoeidmblnbbaaGreatDoor
open Go.RowKit
set_option linter.unusedVariables false
set_option linter.unusedSimpArgs false

def kK23 : List Ky := [⟨1, false, 1, false, false, 0⟩]
def dA23 : List ClS := [⟨⟨97, []⟩, none, 0⟩, ⟨⟨98, []⟩, none, 0⟩, ⟨⟨99, []⟩, none, 0⟩, ⟨⟨10, []⟩, none, 0⟩]
def dB23 : List ClS := [⟨⟨97, []⟩, none, 0⟩, ⟨⟨120, []⟩, none, 0⟩, ⟨⟨99, []⟩, none, 0⟩, ⟨⟨10, []⟩, none, 0⟩]
theorem dA23_may : mayD kK23 (clsOf dA23) = 0 := by decide +kernel
theorem dB23_may : mayD kK23 (clsOf dB23) = 0 := by decide +kernel
theorem d23_ops : mkOps (diffM (clsOf dA23) (clsOf dB23)) = [opR 1 [], opI [120] [], opD 1] := by decide +kernel
def lit23 (b : Nat) : List OpS := [⟨opR 1 [], none, 0, none, 0, none, 0⟩, ⟨opI [120] [], some ⟨b, 0, none⟩, 1, none, 0, none, 0⟩, ⟨opD 1, none, 0, none, 0, none, 0⟩]
/-- cells without sets, in a new block -/
theorem rdcl_nil {w : World} {B : Nat} {A : Option Addr} {l : List ClS} (h : RdCs w B A l) (hl : ∀ x ∈ l, x.c.s = []) : RdCl w B A l := ⟨h, fun x hx => by rw [hl x hx]; exact Rd.nil⟩

set_option maxRecDepth 100000 in
set_option maxHeartbeats 3200000 in
theorem known23_any (w : World) (hT : Lib.Utf8Tabs 1 2 w) :
    Calls Tryz.prog 23 #[] w fun e w' => e = .returned (.bool true) ∧ Below w.heap.size w w' := by
  go_enter Tryz.func23, Tryz.ntmps23
  go_wp2_with (go_at_call 13; refine Hid.out ?_)
  refine Lib.hid ?_
  have y := ext_alloc w (.cells #[.int .i64 1, .bool false, .int .u8 1, .bool false, .bool false, .int .i64 0] 74)
  have rk : RdKy _ _ _ kK23 := Rd.new (enc := Ky.enc) (size := 6) Ky.enc_len w 74 kK23 (cs := #[.int .i64 1, .bool false, .int .u8 1, .bool false, .bool false, .int .i64 0]) rfl rfl
  refine (new_any (some ⟨w.heap.size, 0, none⟩) 1 1 kK23 _ rfl rk (by omega)).mono ?_
  rintro e v1 ⟨y1, ⟨hm, s, rfl, hS⟩ | ⟨hm, rfl⟩⟩
  rotate_left
  · have : mayKs kK23 = true := by decide +kernel
    rw [this] at hm; cases hm
  clear hm rk
  replace y := ext_trans y y1
  clear y1
  go_wp2_with (go_at_call 24; refine Hid.out ?_)
  refine Lib.hid ?_
  have ya := ext_alloc v1 (.cells #[.int .i32 97, .slice none 0 0, .int .i32 98, .slice none 0 0, .int .i32 99, .slice none 0 0, .int .i32 10, .slice none 0 0] 59)
  have ra : RdCs _ _ _ dA23 := Rd.new (enc := ClS.enc) (size := 2) ClS.enc_len v1 59 dA23 (cs := #[.int .i32 97, .slice none 0 0, .int .i32 98, .slice none 0 0, .int .i32 99, .slice none 0 0, .int .i32 10, .slice none 0 0]) rfl rfl
  have z1 : (v1.alloc (.cells #[.int .i32 97, .slice none 0 0, .int .i32 98, .slice none 0 0, .int .i32 99, .slice none 0 0, .int .i32 10, .slice none 0 0] 59)).heap.size = v1.heap.size + 1 := by simp
  generalize v1.alloc (.cells #[.int .i32 97, .slice none 0 0, .int .i32 98, .slice none 0 0, .int .i32 99, .slice none 0 0, .int .i32 10, .slice none 0 0] 59) = u1 at *
  have yb := ext_alloc u1 (.cells #[.int .i32 97, .slice none 0 0, .int .i32 120, .slice none 0 0, .int .i32 99, .slice none 0 0, .int .i32 10, .slice none 0 0] 59)
  have rb : RdCs _ _ _ dB23 := Rd.new (enc := ClS.enc) (size := 2) ClS.enc_len u1 59 dB23 (cs := #[.int .i32 97, .slice none 0 0, .int .i32 120, .slice none 0 0, .int .i32 99, .slice none 0 0, .int .i32 10, .slice none 0 0]) rfl (b := v1.heap.size + 1) z1.symm
  generalize u1.alloc (.cells #[.int .i32 97, .slice none 0 0, .int .i32 120, .slice none 0 0, .int .i32 99, .slice none 0 0, .int .i32 10, .slice none 0 0] 59) = u2 at *
  have nA : ∀ x ∈ dA23, x.c.s = [] ∧ x.cs = 0 := fun x hx => by
    simp only [dA23, List.mem_cons, List.not_mem_nil, or_false] at hx
    rcases hx with rfl | rfl | rfl | rfl <;> exact ⟨rfl, rfl⟩
  have nB : ∀ x ∈ dB23, x.c.s = [] ∧ x.cs = 0 := fun x hx => by
    simp only [dB23, List.mem_cons, List.not_mem_nil, or_false] at hx
    rcases hx with rfl | rfl | rfl | rfl <;> exact ⟨rfl, rfl⟩
  replace y := ext_trans y (ext_trans ya yb)
  have HT2 := Lib.hid (Utf8Tabs_below hT y)
  have Y2 := Lib.hid y
  refine (cdiff_ok s kK23 (some ⟨v1.heap.size, 0, none⟩) (some ⟨v1.heap.size + 1, 0, none⟩) 4 4 4 4 dA23 dB23 u2 rfl rfl (rdcl_nil (ra.ext yb) (fun x hx => (nA x hx).1)) (rdcl_nil rb (fun x hx => (nB x hx).1)) (by omega) (by omega) (by omega) (by omega) (hS.ext (ext_trans ya yb))
    (fun x hx => by rw [(nA x hx).1]; exact ⟨by simp, fun c hc => by cases hc⟩) (fun x hx => by rw [(nB x hx).1]; exact ⟨by simp, fun c hc => by cases hc⟩) (fun x hx => by rw [(nA x hx).1, (nA x hx).2]; exact ⟨Nat.le_refl _, by unfold maxLen; omega⟩) HT2.out dA23_may dB23_may).mono ?_
  rw [d23_ops]
  clear ya yb ra rb z1 nA nB y hS HT2
  rintro e u3 ⟨A3, c3, l3, rfl, ho3, hw3, hp3, y3⟩
  have Y3 := Lib.hid (ext_trans Y2.out y3)
  have hlen : l3.length = 3 := by
    have h := congrArg List.length ho3
    unfold osOf at h
    simpa using h
  have OB : ∀ x ∈ l3, x.o.r.length ≤ 100000000 ∧ x.o.s.length ≤ 100000000 ∧ x.o.p.length ≤ 100000000 := fun x hx => by
    have hm : x.o ∈ osOf l3 := by unfold osOf; exact List.mem_map_of_mem hx
    rw [ho3] at hm
    simp only [List.mem_cons, List.not_mem_nil, or_false] at hm
    rcases hm with h | h | h <;> rw [h] <;> simp [opR, opI, opD]
  have R3 : RdOp u3 u3.heap.size A3 l3 := ⟨hw3.rd OpS.enc_len, fun z hz => by
    obtain ⟨g, h1, h2, h3⟩ := hp3 z hz
    exact ⟨h1.1.rd encI32_len, h2.1.rd At.enc_len, h3.1.rd Ch.enc_len⟩⟩
  have HO := Lib.hid ho3
  have HOB := Lib.hid OB
  have HR3 := Lib.hid R3
  have HLN := Lib.hid hlen
  clear ho3 hw3 hp3 OB R3 y3
  rw [hlen]
  clear hlen
  go_wp2_with (go_at_call 34; refine Hid.out ?_)
  refine Lib.hid ?_
  have ya := ext_alloc u3 (.cells #[.int .i32 120] 21)
  have ra : RdI32 _ _ _ [120] := Rd.new (enc := encI32) (size := 1) encI32_len u3 21 [120] (cs := #[.int .i32 120]) rfl rfl
  have z1 : (u3.alloc (.cells #[.int .i32 120] 21)).heap.size = u3.heap.size + 1 := by simp
  generalize u3.alloc (.cells #[.int .i32 120] 21) = u4 at *
  have yb := ext_alloc u4 (.cells #[.int .u8 1, .int .i64 1, .slice none 0 0, .slice none 0 0, .slice none 0 0, .int .u8 2, .int .i64 0, .slice (some ⟨u3.heap.size, 0, none⟩) 1 1, .slice none 0 0, .slice none 0 0, .int .u8 3, .int .i64 1, .slice none 0 0, .slice none 0 0, .slice none 0 0] 46)
  have rb : RdOs _ _ _ (lit23 u3.heap.size) := Rd.new (enc := OpS.enc) (size := 5) OpS.enc_len u4 46 (lit23 u3.heap.size) (cs := #[.int .u8 1, .int .i64 1, .slice none 0 0, .slice none 0 0, .slice none 0 0, .int .u8 2, .int .i64 0, .slice (some ⟨u3.heap.size, 0, none⟩) 1 1, .slice none 0 0, .slice none 0 0, .int .u8 3, .int .i64 1, .slice none 0 0, .slice none 0 0, .slice none 0 0]) rfl (b := u3.heap.size + 1) z1.symm
  generalize u4.alloc (.cells #[.int .u8 1, .int .i64 1, .slice none 0 0, .slice none 0 0, .slice none 0 0, .int .u8 2, .int .i64 0, .slice (some ⟨u3.heap.size, 0, none⟩) 1 1, .slice none 0 0, .slice none 0 0, .int .u8 3, .int .i64 1, .slice none 0 0, .slice none 0 0, .slice none 0 0] 46) = u5 at *
  have hsub : ∀ z ∈ lit23 u3.heap.size, RdI32 u5 u5.heap.size z.Ar z.o.r ∧ RdAt u5 u5.heap.size z.As z.o.s ∧ RdCh u5 u5.heap.size z.Ap z.o.p := fun z hz => by
    simp only [lit23, List.mem_cons, List.not_mem_nil, or_false] at hz
    rcases hz with rfl | rfl | rfl
    · exact ⟨Rd.nil, Rd.nil, Rd.nil⟩
    · exact ⟨ra.ext yb, Rd.nil, Rd.nil⟩
    · exact ⟨Rd.nil, Rd.nil, Rd.nil⟩
  have lb : ∀ x ∈ lit23 u3.heap.size, x.o.r.length ≤ 100000000 ∧ x.o.s.length ≤ 100000000 ∧ x.o.p.length ≤ 100000000 := fun z hz => by
    simp only [lit23, List.mem_cons, List.not_mem_nil, or_false] at hz
    rcases hz with rfl | rfl | rfl <;> simp [opR, opI, opD]
  refine (same15_any A3 (some ⟨u3.heap.size + 1, 0, none⟩) 3 3 c3 3 l3 (lit23 u3.heap.size) u5 HLN.out.symm rfl (HR3.out.ext (ext_trans ya yb)) ⟨rb, hsub⟩ (by omega) (by omega) HOB.out lb).mono ?_
  rw [HO.out, show osOf (lit23 u3.heap.size) = [opR 1 [], opI [120] [], opD 1] from rfl, decide_eq_true rfl]
  have Y5 := Lib.hid (ext_trans Y3.out (ext_trans ya yb))
  clear ya yb ra rb z1 hsub lb
  rintro e u6 ⟨rfl, y6⟩
  have yy := ext_trans Y5.out y6
  go_wp2_with (fail)
  go_ret
  exact ⟨rfl, yy⟩
end Go.Proofs.YtipoeidmblnbbaaGreatDoor
