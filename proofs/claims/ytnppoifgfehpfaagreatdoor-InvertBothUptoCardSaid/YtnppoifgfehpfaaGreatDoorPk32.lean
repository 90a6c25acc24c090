/- Merged texts: Great18, SumX, OpKnown, Known19, Same06, Same15, Same15D, Get05, LawKit. -/
import Derived.Test.YtnppoifgfehpfaaGreatDoorPk7
import Derived.Test.YtnppoifgfehpfaaGreatDoorPk26
import Derived.Test.YtnppoifgfehpfaaGreatDoorPk19
import Derived.Test.YtnppoifgfehpfaaGreatDoorPk10
import Derived.Test.YtnppoifgfehpfaaGreatDoorPk2
import Derived.Test.YtnppoifgfehpfaaGreatDoorPk15
import Derived.Test.YtnppoifgfehpfaaGreatDoorPk3
import Derived.Test.YtnppoifgfehpfaaGreatDoorPk31
import Derived.Deep.RegionHeld3
import Derived.Test.YtnppoifgfehpfaaGreatDoorPk29
import Derived.Test.YtnppoifgfehpfaaGreatDoorPk30
import Derived.Test.YtnppoifgfehpfaaGreatDoorPk8
import Derived.Test.YtnppoifgfehpfaaGreatDoorPk6
import Derived.BigQuiet
import Derived.Deep.QuietTactic
/- The walk of rubricref18.Great. -/
namespace Go.Proofs.YtnppoifgfehpfaaGreatDoor
open Go.RowKit
set_option linter.unusedVariables false
set_option linter.unusedSimpArgs false

def GreatOut (n : Nat) (l : List ClS) (lim : Int) (w : World) (e : Ending) (w' : World) : Prop :=
  ∃ b : Bool, e = .returned (.bool b) ∧ (b = false → (n : Int) ≤ lim ∧ ∀ x ∈ l, x.c.s.length ≤ 64) ∧ ∃ d, w' = w.drewN d
set_option maxRecDepth 100000 in
set_option maxHeartbeats 1600000 in
theorem great18_any (A : Option Addr) (n c : Nat) (l : List ClS) (lim : Int) (w : World) (hn : n = l.length) (h : RdCl w w.heap.size A l) (hb : n ≤ 140737488355328) (hs : ∀ x ∈ l, x.c.s.length ≤ 140737488355328) :
    Calls Tryz.prog 26 #[.slice A n c, .int .i64 lim] w (GreatOut n l lim w) := by
  have N := Lib.hid hn
  have HR := Lib.hid h
  have HS := Lib.hid hs
  clear hn h hs
  by_cases hl : lim < (n : Int)
  · go_enter Tryz.func26, Tryz.ntmps26
    go_wp2_with (fail)
    go_ret
    exact ⟨true, rfl, (by intro h; cases h), 0, rfl⟩
  have hle : (n : Int) ≤ lim := by omega
  go_enter Tryz.func26, Tryz.ntmps26
  go_wp2_with (fail)
  go_loopg [5, 6] n (fun g av iv wr => ∃ (m : Nat) (a : Int), m ≤ n ∧ g = n - m ∧ av = .int .i64 a ∧ iv = .int .i64 (m : Int) ∧ (∃ d, wr = w.drewN d) ∧ Hid (∀ x ∈ l.take m, x.c.s.length ≤ 64))
  case atStart => exact ⟨0, 0, by omega, rfl, rfl, rfl, ⟨0, rfl⟩, Lib.hid (by simp)⟩
  case round =>
    obtain ⟨m, a, hm, hg, rfl, rfl, ⟨d, rfl⟩, HI⟩ := hrel
    have HG := Lib.hid hg
    clear hg
    by_cases hlt : m < n
    · have hl1 : m < l.length := by have := N.out; omega
      obtain ⟨ad, o, had0, had, hd1, hx1, hc0⟩ := HR.out.1.el hl1
      subst had0
      have hmem := List.mem_of_getElem? hx1
      have g2 := HR.out.2 o hmem
      have hso := HS.out o hmem
      have HT : Hid (l.take (m + 1) = l.take m ++ [o]) := Lib.hid (by rw [List.take_add_one, hx1]; rfl)
      obtain ⟨⟨r, s⟩, As, cs⟩ := o
      simp only at g2 hso
      obtain ⟨r0, r1⟩ := cl_cells hc0
      obtain ⟨ns, hns⟩ : ∃ X, s.length = X := ⟨_, rfl⟩
      have NS := Lib.hid hns
      rw [hns] at r1 hso
      have hw2 : IntKind.i64.wrap ((m:Int) + 1) = (m : Int) + 1 := IntWalk.i64_in _ (by omega)
      clear hc0 hd1 hx1 hmem hns hl1
      by_cases h64 : (64 : Int) < (ns : Int)
      · go_wp2_with (fail)
        go_ret
        exact ⟨true, rfl, (by intro h; cases h), _, rfl⟩
      · have h64' : Hid (s.length ≤ 64) := Lib.hid (by rw [NS.out]; omega)
        go_wp2_with (fail)
        go_loopg [5, 7] ns (fun g av iv wi => ∃ (j : Nat) (b : Int), j ≤ ns ∧ g = ns - j ∧ av = .int .i64 b ∧ iv = .int .i64 (j : Int) ∧ ∃ d, wi = w.drewN d)
        case atStart => exact ⟨0, _, by omega, rfl, rfl, rfl, _, rfl⟩
        case round =>
          obtain ⟨j, b, hj, hg2, rfl, rfl, d2, rfl⟩ := hrel
          have HG2 := Lib.hid hg2
          clear hg2
          by_cases hls : j < ns
          · obtain ⟨ad2, z, e2, _, _, _, hz⟩ := g2.el (i := j) (by have := NS.out; omega)
            subst e2
            obtain ⟨z1, z2, z3, z4, z5⟩ := z
            obtain ⟨s0, s1, s2, s3, s4⟩ := at_cells hz
            have hw3 : IntKind.i64.wrap ((j:Int) + 1) = (j : Int) + 1 := IntWalk.i64_in _ (by omega)
            clear hz
            go_wp2_with (fail)
            go_roundg (ns - (j + 1))
            case measure => have := HG2.out; omega
            case rel => exact ⟨j + 1, _, by omega, rfl, rfl, by go_num, _, rfl⟩
          · go_wp2_with (fail)
            go_roundg (n - (m + 1))
            case measure => have := HG.out; omega
            case rel =>
              refine ⟨m + 1, _, by omega, rfl, rfl, by go_num, ⟨_, rfl⟩, Lib.hid ?_⟩
              intro y hy
              rw [HT.out] at hy
              rcases List.mem_append.1 hy with hy | hy
              · exact HI.out y hy
              · simp at hy; subst hy; exact h64'.out
    · have hmn : l.take m = l := List.take_of_length_le (by have := N.out; omega)
      have HI2 := HI.out
      rw [hmn] at HI2
      have H2 := Lib.hid HI2
      clear HI2 hmn
      go_wp2_with (fail)
      go_ret
      exact ⟨_, rfl, fun _ => ⟨hle, H2.out⟩, _, rfl⟩
end Go.Proofs.YtnppoifgfehpfaaGreatDoor
/- How much some deltas have together. -/
namespace Go.Proofs.YtnppoifgfehpfaaGreatDoor
set_option linter.unusedVariables false
set_option linter.unusedSimpArgs false

theorem szX_len (x : List OpS) : x.length ≤ szX x := by
  induction x with
  | nil => exact Nat.zero_le _
  | cons a x ih =>
    show _ ≤ szO a.o + szX x
    unfold szO
    rw [List.length_cons]; omega
def sumX (L : List SX) : Nat := (L.map (fun s => szX s.l)).sum
end Go.Proofs.YtnppoifgfehpfaaGreatDoor
/- The walk of rubriclaw15.known. -/
namespace Go.Proofs.YtnppoifgfehpfaaGreatDoor
open Go.RowKit
set_option linter.unusedVariables false
set_option linter.unusedSimpArgs false

def kK : List Ky := [⟨1, false, 1, false, false, 0⟩]
theorem rd_ops (u : World) (l : List OpS) (hs : Sub u u.heap.size l) {cs : Array Value} (hc : cs.toList = l.flatMap OpS.enc) {b : Nat} (hb : b = u.heap.size) :
    RdOp (u.alloc (.cells cs 54)) (u.alloc (.cells cs 54)).heap.size (some ⟨b, 0, none⟩) l :=
  ⟨Rd.new (enc := OpS.enc) (size := 5) OpS.enc_len u 54 l hc hb, hs.ext (ext_alloc u _)⟩
theorem ok_small (o : Opd) (h1 : o.s = []) (h2 : o.p = []) (h3 : o.r.length ≤ 10) : okOp o := by
  refine ⟨?_, ?_, by omega, by rw [h1]; simp, by rw [h2]; simp⟩
  · rw [h1]; intro c hc; cases hc
  · rw [h2]; intro c hc; cases hc
theorem sub_plain {u : World} {B : Nat} {k n : Int} : Sub u B [(⟨⟨k, n, [], [], []⟩, none, 0, none, 0, none, 0⟩ : OpS)] := by
  intro x hx
  simp at hx; subst hx
  exact ⟨Rd.nil, Rd.nil, Rd.nil⟩
theorem sub_cons {u : World} {B : Nat} {x : OpS} {l : List OpS} (h : Sub u B [x]) (h2 : Sub u B l) : Sub u B (x :: l) := by
  intro z hz
  rcases List.mem_cons.1 hz with rfl | hz
  · exact h z (by simp)
  · exact h2 z hz
end Go.Proofs.YtnppoifgfehpfaaGreatDoor
/- The walk of rubriclaw19.known. -/
namespace Go.Proofs.YtnppoifgfehpfaaGreatDoor
open Go.RowKit
set_option linter.unusedVariables false
set_option linter.unusedSimpArgs false

def kK19 : List Ky := [⟨1, false, 1, false, false, 0⟩]
/-- cells without sets -/
theorem rdcl_nil19 {w : World} {B : Nat} {A : Option Addr} {l : List ClS} (h : RdCs w B A l) (hl : ∀ x ∈ l, x.c.s = []) : RdCl w B A l := ⟨h, fun x hx => by rw [hl x hx]; exact Rd.nil⟩
def dA19 : List ClS := [⟨⟨97, []⟩, none, 0⟩, ⟨⟨98, []⟩, none, 0⟩, ⟨⟨10, []⟩, none, 0⟩]
def xA19 (b : Nat) : List OpS := [⟨opR 1 [], none, 0, none, 0, none, 0⟩, ⟨opI [99] [], some ⟨b, 0, none⟩, 1, none, 0, none, 0⟩, ⟨opD 1, none, 0, none, 0, none, 0⟩]
def xB19 : List OpS := [⟨opD 3, none, 0, none, 0, none, 0⟩]
theorem a19_zero (b : Nat) : applyN kK19 (xA19 b) (clsOf dA19) 9 = 0 := by kernel_rfl
theorem b19_six : applyN kK19 xB19 (clsOf dA19) 9 = 6 := by kernel_rfl
theorem a19_app (b : Nat) : app kK19 (units (osOf (xA19 b))) (clsOf dA19) = [⟨97, []⟩, ⟨99, []⟩, ⟨10, []⟩] := by kernel_rfl

set_option maxRecDepth 100000 in
set_option maxHeartbeats 3200000 in
theorem known19_any (w : World) (hT : Lib.Utf8Tabs 1 2 w) :
    Calls Tryz.prog 38 #[] w fun e w' => e = .returned (.bool true) ∧ Below w.heap.size w w' := by
  go_enter Tryz.func38, Tryz.ntmps38
  go_wp2_with (go_at_call 17; refine Hid.out ?_)
  refine Lib.hid ?_
  have y := ext_alloc w (.cells #[.int .i64 1, .bool false, .int .u8 1, .bool false, .bool false, .int .i64 0] 84)
  have rk : RdKy _ _ _ kK19 := Rd.new (enc := Ky.enc) (size := 6) Ky.enc_len w 84 kK19 (cs := #[.int .i64 1, .bool false, .int .u8 1, .bool false, .bool false, .int .i64 0]) rfl rfl
  refine (new_any (some ⟨w.heap.size, 0, none⟩) 1 1 kK19 _ rfl rk (by omega)).mono ?_
  rintro e v1 ⟨y1, ⟨hm, s, rfl, hS⟩ | ⟨hm, rfl⟩⟩
  rotate_left
  · have : mayKs kK19 = true := by decide +kernel
    rw [this] at hm; cases hm
  clear hm rk
  replace y := ext_trans y y1
  clear y1
  go_wp2_with (go_at_call 21; refine Hid.out ?_)
  refine Lib.hid ?_
  have ya := ext_alloc v1 (.cells #[.int .i32 97, .slice none 0 0, .int .i32 98, .slice none 0 0, .int .i32 10, .slice none 0 0] 71)
  have ra : RdCs _ _ _ dA19 := Rd.new (enc := ClS.enc) (size := 2) ClS.enc_len v1 71 dA19 (cs := #[.int .i32 97, .slice none 0 0, .int .i32 98, .slice none 0 0, .int .i32 10, .slice none 0 0]) rfl rfl
  have z1 : (v1.alloc (.cells #[.int .i32 97, .slice none 0 0, .int .i32 98, .slice none 0 0, .int .i32 10, .slice none 0 0] 71)).heap.size = v1.heap.size + 1 := by simp
  generalize v1.alloc (.cells #[.int .i32 97, .slice none 0 0, .int .i32 98, .slice none 0 0, .int .i32 10, .slice none 0 0] 71) = u1 at *
  have yb := ext_alloc u1 (.cells #[.int .i32 99] 21)
  have rb : RdI32 _ _ _ [99] := Rd.new (enc := encI32) (size := 1) encI32_len u1 21 [99] (cs := #[.int .i32 99]) rfl (b := v1.heap.size + 1) z1.symm
  have z2 : (u1.alloc (.cells #[.int .i32 99] 21)).heap.size = v1.heap.size + 2 := by rw [World.size_alloc, z1]
  generalize u1.alloc (.cells #[.int .i32 99] 21) = u2 at *
  have yc := ext_alloc u2 (.cells #[.int .u8 1, .int .i64 1, .slice none 0 0, .slice none 0 0, .slice none 0 0, .int .u8 2, .int .i64 0, .slice (some ⟨v1.heap.size + 1, 0, none⟩) 1 1, .slice none 0 0, .slice none 0 0, .int .u8 3, .int .i64 1, .slice none 0 0, .slice none 0 0, .slice none 0 0] 54)
  have hsub : ∀ z ∈ xA19 (v1.heap.size + 1), RdI32 u2 u2.heap.size z.Ar z.o.r ∧ RdAt u2 u2.heap.size z.As z.o.s ∧ RdCh u2 u2.heap.size z.Ap z.o.p := fun z hz => by
    simp only [xA19, List.mem_cons, List.not_mem_nil, or_false] at hz
    rcases hz with rfl | rfl | rfl
    · exact ⟨Rd.nil, Rd.nil, Rd.nil⟩
    · exact ⟨rb, Rd.nil, Rd.nil⟩
    · exact ⟨Rd.nil, Rd.nil, Rd.nil⟩
  have rc := rd_ops u2 (xA19 (v1.heap.size + 1)) hsub (cs := #[.int .u8 1, .int .i64 1, .slice none 0 0, .slice none 0 0, .slice none 0 0, .int .u8 2, .int .i64 0, .slice (some ⟨v1.heap.size + 1, 0, none⟩) 1 1, .slice none 0 0, .slice none 0 0, .int .u8 3, .int .i64 1, .slice none 0 0, .slice none 0 0, .slice none 0 0]) rfl (b := v1.heap.size + 2) z2.symm
  generalize u2.alloc (.cells #[.int .u8 1, .int .i64 1, .slice none 0 0, .slice none 0 0, .slice none 0 0, .int .u8 2, .int .i64 0, .slice (some ⟨v1.heap.size + 1, 0, none⟩) 1 1, .slice none 0 0, .slice none 0 0, .int .u8 3, .int .i64 1, .slice none 0 0, .slice none 0 0, .slice none 0 0] 54) = u3 at *
  have nA : ∀ x ∈ dA19, x.c.s = [] ∧ x.cs = 0 := fun x hx => by
    simp only [dA19, List.mem_cons, List.not_mem_nil, or_false] at hx
    rcases hx with rfl | rfl | rfl <;> exact ⟨rfl, rfl⟩
  have RA := Lib.hid (rdcl_nil19 (ra.ext (ext_trans yb yc)) (fun x hx => (nA x hx).1))
  have OKA : Hid (∀ o ∈ xA19 (v1.heap.size + 1), okOp o.o) := Lib.hid (fun z hz => by
    simp only [xA19, List.mem_cons, List.not_mem_nil, or_false] at hz
    rcases hz with rfl | rfl | rfl <;> exact ok_small _ rfl rfl (by simp [opR, opI, opD]))
  have CA : Hid (∀ z ∈ dA19, z.c.s.length ≤ 100000000 ∧ okVr z.c.s) := Lib.hid (fun x hx => by rw [(nA x hx).1]; exact ⟨by simp, fun c hc => by cases hc⟩)
  have CB : Hid (∀ z ∈ dA19, z.c.s.length ≤ z.cs ∧ z.cs ≤ maxLen) := Lib.hid (fun x hx => by rw [(nA x hx).1, (nA x hx).2]; exact ⟨Nat.le_refl _, by unfold maxLen; omega⟩)
  have Y3 := Lib.hid (ext_trans y (ext_trans ya (ext_trans yb yc)))
  have HS := Lib.hid (hS.ext (ext_trans ya (ext_trans yb yc)))
  refine (applyD_any s kK19 (some ⟨v1.heap.size, 0, none⟩) (some ⟨v1.heap.size + 2, 0, none⟩) 3 3 3 3 dA19 (xA19 (v1.heap.size + 1)) 9 u3 rfl rfl (by omega) (by omega) (by omega) RA.out rc HS.out CA.out CB.out OKA.out (Utf8Tabs_below hT Y3.out)).mono ?_
  clear ya yb yc ra rb rc z1 z2 hsub nA y hS OKA
  rintro e u4 ⟨y4, ⟨hne, _⟩ | ⟨_, A, c, L, rfl, hL, oL, pL⟩⟩
  · exact absurd (a19_zero _) hne
  rw [a19_app] at hL
  have LN : L.length = 3 := by have := congrArg List.length hL; rw [clsOf_len] at this; simpa using this
  obtain ⟨q, hq⟩ : ∃ q, L[1]? = some q := ⟨L[1], List.getElem?_eq_getElem (by omega)⟩
  have hqr : q.c.r = 99 := by
    have h1 := clsOf_at hq
    rw [hL] at h1
    have h2 : (⟨99, []⟩ : Cl) = q.c := by simpa using h1
    rw [← h2]
  have RL := Lib.hid (oL.rd ClS.enc_len)
  have QQ := Lib.hid hq
  have QR := Lib.hid hqr
  have LEN := Lib.hid LN
  have Y4 := Lib.hid (ext_trans Y3.out y4)
  have RA4 := Lib.hid (RA.out.ext y4)
  have HS4 := Lib.hid (HS.out.ext y4)
  clear hL oL pL hq hqr RA HS y4
  rw [LN]
  clear LN
  go_wp2_with (go_at_call 21; refine Hid.out ?_)
  refine Lib.hid ?_
  have yc := ext_alloc u4 (.cells #[.int .u8 3, .int .i64 3, .slice none 0 0, .slice none 0 0, .slice none 0 0] 54)
  have rc := rd_ops u4 xB19 (fun z hz => by
    simp only [xB19, List.mem_cons, List.not_mem_nil, or_false] at hz
    subst hz; exact ⟨Rd.nil, Rd.nil, Rd.nil⟩) (cs := #[.int .u8 3, .int .i64 3, .slice none 0 0, .slice none 0 0, .slice none 0 0]) rfl (b := u4.heap.size) rfl
  refine (applyD_any s kK19 (some ⟨v1.heap.size, 0, none⟩) (some ⟨u4.heap.size, 0, none⟩) 3 3 1 1 dA19 xB19 9 _ rfl rfl (by omega) (by omega) (by omega) (RA4.out.ext yc) rc (HS4.out.ext yc) CA.out CB.out (fun z hz => by
    simp only [xB19, List.mem_cons, List.not_mem_nil, or_false] at hz
    subst hz; exact ok_small _ rfl rfl (by simp [opD])) (Utf8Tabs_below hT (ext_trans Y4.out yc))).mono ?_
  rw [show ApplyOut kK19 xB19 (clsOf dA19) 9 = fun w e w' => ApplyOut kK19 xB19 (clsOf dA19) 9 w e w' from rfl]
  rintro e u5 ⟨y5, ⟨_, rfl⟩ | ⟨hz, _⟩⟩
  rotate_left
  · rw [b19_six] at hz; cases hz
  rw [b19_six]
  have Y5 := Lib.hid (ext_trans yc y5)
  obtain ⟨ad, x, hA, _, _, hx1, hc1⟩ := (RL.out.ext Y5.out).el (i := 1) (by rw [LEN.out]; omega)
  have hxq : x = q := by have := QQ.out; rw [hx1] at this; injection this
  subst hxq
  obtain ⟨⟨qr, qs⟩, qA, qc⟩ := x
  have hq9 : qr = 99 := QR.out
  subst hq9
  obtain ⟨t0', -⟩ := cl_cells hc1
  have t0 : u5.cell? ⟨ad.block, ad.off + 2, none⟩ = some (.int .i32 99) := t0'
  clear t0'
  have yy := ext_trans Y4.out Y5.out
  clear hx1 hc1 QQ QR yc rc y5
  subst hA
  go_wp2_with (fail)
  go_ret
  exact ⟨rfl, yy⟩
end Go.Proofs.YtnppoifgfehpfaaGreatDoor
/- The walk of the document's Same of a patch (rubricref06). -/
namespace Go.Proofs.YtnppoifgfehpfaaGreatDoor
open Go.RowKit
set_option linter.unusedVariables false
set_option linter.unusedSimpArgs false

set_option maxRecDepth 100000 in
set_option maxHeartbeats 400000 in
theorem sameR6_any (A B : Option Addr) (n m c d : Nat) (l k : List Ch) (w : World) (hn : n = l.length) (hm : m = k.length) (h1 : RdCh w w.heap.size A l) (h2 : RdCh w w.heap.size B k) (hb : n ≤ 140737488355328) (hb2 : m ≤ 140737488355328) :
    Calls Tryz.prog 65 #[.slice A n c, .slice B m d] w (Quiet (.bool (decide (l = k))) w) := by
  have N := Lib.hid hn
  have M := Lib.hid hm
  generalize hR : decide (l = k) = R
  have HR := Lib.hid hR
  clear hn hR hm
  by_cases hnm : (n : Int) = m
  · have hnm' : n = m := by omega
    subst hnm'
    clear hnm
    go_enter Tryz.func65, Tryz.ntmps65
    go_wp2_with (fail)
    go_loopg [5] n (fun g iv wr => ∃ i : Nat, i ≤ n ∧ g = n - i ∧ iv = .int .i64 (i : Int) ∧ (∃ d, wr = w.drewN d) ∧ Hid (decide (l.drop i = k.drop i) = R))
    case atStart => exact ⟨0, by omega, rfl, rfl, ⟨0, rfl⟩, Lib.hid (by rw [List.drop_zero, List.drop_zero]; exact HR.out)⟩
    case round =>
      obtain ⟨i, hi, hg, rfl, ⟨q, rfl⟩, HI⟩ := hrel
      have HG := Lib.hid hg
      clear hg HR
      by_cases hlt : i < n
      · have hl1 : i < l.length := by have := N.out; omega
        have hl2 : i < k.length := by have := M.out; omega
        obtain ⟨ad, x, rfl, _, hd1, _, hc1⟩ := h1.el hl1
        obtain ⟨ad2, y, rfl, _, hd2, _, hc2⟩ := h2.el hl2
        have HI' : Hid (decide (x :: l.drop (i + 1) = y :: k.drop (i + 1)) = R) := Lib.hid (by rw [← HI.out, hd1, hd2])
        clear HI hd1 hd2
        obtain ⟨x1, x6, x2, x3, x4, x5⟩ := x
        obtain ⟨y1, y6, y2, y3, y4, y5⟩ := y
        obtain ⟨r0, r1, r2, r3, r4, r5⟩ := ch_cells hc1
        obtain ⟨s0, s1, s2, s3, s4, s5⟩ := ch_cells hc2
        by_cases hxy : (⟨x1, x6, ⟨x2, x3, x4, x5⟩⟩ : Ch) = ⟨y1, y6, ⟨y2, y3, y4, y5⟩⟩
        · have hq := beqCh_eq hxy
          have HXY := Lib.hid hxy
          clear hxy
          go_wp2_with (go_quiet (fail))
          go_roundg (n - (i + 1))
          case measure => have := HG.out; omega
          case rel => exact ⟨i + 1, by omega, rfl, by go_num, ⟨_, rfl⟩, Lib.hid (by rw [← HI'.out]; simp only [List.cons.injEq, HXY.out, true_and])⟩
        · have hq := beqCh_ne hxy
          have HXY := Lib.hid hxy
          clear hxy
          go_wp2_with (go_quiet (fail))
          go_ret
          exact ⟨ret_bool (by rw [← HI'.out]; exact (decide_eq_false fun e => HXY.out (List.cons.inj e).1).symm), _, World.drewN_drewN _ _ _⟩
      · go_wp2_with (fail)
        go_ret
        exact ⟨ret_bool (by rw [← HI.out, List.drop_eq_nil_of_le (by have := N.out; omega), List.drop_eq_nil_of_le (by have := M.out; omega)]; rfl), _, rfl⟩
  · have hne : ((n : Int) == m) = false := beq_eq_false_iff_ne.2 hnm
    go_enter Tryz.func65, Tryz.ntmps65
    go_wp2_with (fail)
    go_ret
    refine ⟨ret_bool ?_, 0, rfl⟩
    rw [← HR.out]
    refine (decide_eq_false fun e => ?_).symm
    have h3 := N.out
    have h4 := M.out
    rw [e] at h3
    omega

end Go.Proofs.YtnppoifgfehpfaaGreatDoor
/- The walk of rubricref15.Same. -/
namespace Go.Proofs.YtnppoifgfehpfaaGreatDoor
open Go.RowKit
set_option linter.unusedVariables false
set_option linter.unusedSimpArgs false

theorem abs_world {P F : World → Prop} {v : World} (h : F v) (k : ∀ v, F v → P v) : P v := k v h
set_option maxRecDepth 100000 in
set_option maxHeartbeats 3200000 in
theorem same15_any (A B : Option Addr) (n m c d : Nat) (l k : List OpS) (w : World) (hn : n = l.length) (hm : m = k.length) (h1 : RdOp w w.heap.size A l) (h2 : RdOp w w.heap.size B k) (hb : n ≤ 100000000) (hb2 : m ≤ 100000000)
    (hs1 : ∀ x ∈ l, x.o.r.length ≤ 100000000 ∧ x.o.s.length ≤ 100000000 ∧ x.o.p.length ≤ 100000000) (hs2 : ∀ x ∈ k, x.o.r.length ≤ 100000000 ∧ x.o.s.length ≤ 100000000 ∧ x.o.p.length ≤ 100000000) :
    Calls Tryz.prog 20 #[.slice A n c, .slice B m d] w fun e w' => e = .returned (.bool (decide (osOf l = osOf k))) ∧ Below w.heap.size w w' := by
  have N := Lib.hid hn
  have M := Lib.hid hm
  have H1 := Lib.hid h1
  have H2 := Lib.hid h2
  have S1 := Lib.hid hs1
  have S2 := Lib.hid hs2
  generalize hR : decide (osOf l = osOf k) = R
  have HR := Lib.hid hR
  clear hn hR hm h1 h2 hs1 hs2
  have HL : Hid (∀ x : List OpS, (osOf x).length = x.length) := Lib.hid (fun x => by unfold osOf; simp)
  by_cases hnm : (n : Int) = m
  · have hnm' : n = m := by omega
    subst hnm'
    clear hnm
    have hne : ((n : Int) != n) = false := by simp
    go_enter Tryz.func20, Tryz.ntmps20
    go_wp2_with (fail)
    go_loopg [5] n (fun g iv wr => ∃ i : Nat, i ≤ n ∧ g = n - i ∧ iv = .int .i64 (i : Int) ∧ Below w.heap.size w wr ∧ Hid (decide (osOf (l.drop i) = osOf (k.drop i)) = R))
    case atStart => exact ⟨0, by omega, rfl, rfl, Below.refl _ _, Lib.hid (by rw [List.drop_zero, List.drop_zero]; exact HR.out)⟩
    case round =>
      obtain ⟨i, hi, hg, rfl, y, HI⟩ := hrel
      have HG := Lib.hid hg
      clear hg HR
      by_cases hlt : i < n
      · have hl1 : i < l.length := by have := N.out; omega
        have hl2 : i < k.length := by have := M.out; omega
        obtain ⟨ad, x, rfl, had1, hd1, hx1, hc1⟩ := (H1.out.ext y).1.el hl1
        obtain ⟨ad2, x', rfl, had2, hd2, hx2, hc2⟩ := (H2.out.ext y).1.el hl2
        have hm1 := List.mem_of_getElem? hx1
        have hm2 := List.mem_of_getElem? hx2
        have p1 := Lib.hid (H1.out.2 x hm1)
        have p2 := Lib.hid (H2.out.2 x' hm2)
        have b1 := Lib.hid (S1.out x hm1)
        have b2 := Lib.hid (S2.out x' hm2)
        have HI' : Hid (decide (x.o :: osOf (l.drop (i + 1)) = x'.o :: osOf (k.drop (i + 1))) = R) := Lib.hid (by rw [← HI.out, hd1, hd2]; rfl)
        clear HI hd1 hd2 hx1 hx2 hm1 hm2
        obtain ⟨⟨k1, n1, r1, s1, q1⟩, Ar1, cr1, As1, cs1, Ap1, cp1⟩ := x
        obtain ⟨⟨k2, n2, r2, s2, q2'⟩, Ar2, cr2, As2, cs2, Ap2, cp2⟩ := x'
        obtain ⟨z0, z1, z2, z3, z4⟩ := op_cells hc1
        obtain ⟨u0, u1, u2, u3, u4⟩ := op_cells hc2
        have hlt' : (i : Int) < (n : Int) := by omega
        have v1 : wr.heap.size ≠ (ad.add (i * 5)).block := by rw [add_block]; omega
        have v2 : wr.heap.size ≠ (ad2.add (i * 5)).block := by rw [add_block]; omega
        have v3 : wr.heap.size + 1 ≠ (ad.add (i * 5)).block := by rw [add_block]; omega
        have v4 : wr.heap.size + 1 ≠ (ad2.add (i * 5)).block := by rw [add_block]; omega
        clear hc1 hc2 hl1 hl2 had2 had1
        obtain ⟨sz, hsz⟩ : ∃ z, wr.heap.size = z := ⟨_, rfl⟩
        go_wp2_with (fail)
        go_region_held3 (fun w' => w'.cell? (ad.add (i * 5)) = some (.int .u8 k1) ∧ w'.cell? { block := (ad.add (i * 5)).block, off := (ad.add (i * 5)).off + 1 } = some (.int .i64 n1) ∧ w'.cell? { block := (ad.add (i * 5)).block, off := (ad.add (i * 5)).off + 2 } = some (.slice Ar1 r1.length cr1) ∧ w'.cell? { block := (ad.add (i * 5)).block, off := (ad.add (i * 5)).off + 3 } = some (.slice As1 s1.length cs1) ∧ w'.cell? { block := (ad.add (i * 5)).block, off := (ad.add (i * 5)).off + 4 } = some (.slice Ap1 q1.length cp1) ∧ w'.cell? (ad2.add (i * 5)) = some (.int .u8 k2) ∧ w'.cell? { block := (ad2.add (i * 5)).block, off := (ad2.add (i * 5)).off + 1 } = some (.int .i64 n2) ∧ w'.cell? { block := (ad2.add (i * 5)).block, off := (ad2.add (i * 5)).off + 2 } = some (.slice Ar2 r2.length cr2) ∧ w'.cell? { block := (ad2.add (i * 5)).block, off := (ad2.add (i * 5)).off + 3 } = some (.slice As2 s2.length cs2) ∧ w'.cell? { block := (ad2.add (i * 5)).block, off := (ad2.add (i * 5)).off + 4 } = some (.slice Ap2 q2'.length cp2))
          (go_keep) (fail)
        · have ya := ext_alloc wr (.cells #[.int .u8 k1, .int .i64 n1, .slice Ar1 r1.length cr1, .slice As1 s1.length cs1, .slice Ap1 q1.length cp1] 54)
          have yb := ext_alloc (wr.alloc (.cells #[.int .u8 k1, .int .i64 n1, .slice Ar1 r1.length cr1, .slice As1 s1.length cs1, .slice Ap1 q1.length cp1] 54)) (.cells #[.int .u8 k2, .int .i64 n2, .slice Ar2 r2.length cr2, .slice As2 s2.length cs2, .slice Ap2 q2'.length cp2] 54)
          have ga := (yb.block wr.heap.size (by simp)).trans (heap_alloc_new wr (.cells #[.int .u8 k1, .int .i64 n1, .slice Ar1 r1.length cr1, .slice As1 s1.length cs1, .slice Ap1 q1.length cp1] 54))
          have gb := heap_alloc_new (wr.alloc (.cells #[.int .u8 k1, .int .i64 n1, .slice Ar1 r1.length cr1, .slice As1 s1.length cs1, .slice Ap1 q1.length cp1] 54)) (.cells #[.int .u8 k2, .int .i64 n2, .slice Ar2 r2.length cr2, .slice As2 s2.length cs2, .slice Ap2 q2'.length cp2] 54)
          rw [World.size_alloc] at gb
          rw [hsz] at ga gb
          refine abs_world (F := fun v => Below w.heap.size w v ∧ v.heap[sz]? = some (.cells #[.int .u8 k1, .int .i64 n1, .slice Ar1 r1.length cr1, .slice As1 s1.length cs1, .slice Ap1 q1.length cp1] 54 (0, 0)) ∧ v.heap[sz + 1]? = some (.cells #[.int .u8 k2, .int .i64 n2, .slice Ar2 r2.length cr2, .slice As2 s2.length cs2, .slice Ap2 q2'.length cp2] 54 (0, 0))) ⟨(ext_trans y (ext_trans ya yb)).drew, ga, gb⟩ ?_
          clear ya yb ga gb hsz v1 v2 v3 v4
          obtain ⟨sz1, hs1⟩ : ∃ z, sz + 1 = z := ⟨_, rfl⟩
          rw [hs1]
          clear hs1
          intro v
          rintro ⟨yv, g6, g7⟩
          obtain ⟨c0, c1, c2, c3, c4⟩ := box_at g6
          obtain ⟨e0, e1, e2, e3, e4⟩ := box_at g7
          have YV := Lib.hid yv
          clear g6 g7
          by_cases hk : k1 = k2
          · subst hk
            have hkk : (k1 != k1) = false := by simp
            by_cases hn : n1 = n2
            · subst hn
              have hnn : (n1 != n1) = false := by simp
              go_wp2_with (go_at_call 64; refine Hid.out ?_)
              refine Lib.hid ?_
              refine (refSame_any Ar1 Ar2 r1.length r2.length cr1 cr2 r1 r2 v rfl rfl (p1.out.1.ext yv) (p2.out.1.ext yv) (by have := b1.out.1; omega) (by have := b2.out.1; omega)).mono ?_
              by_cases hr : r1 = r2
              · subst hr
                rw [decide_eq_true rfl]
                rintro e v2 ⟨rfl, q2, rfl⟩
                go_wp2_with (go_at_call 46; refine Hid.out ?_)
                refine Lib.hid ?_
                refine (sameA_any As1 As2 s1.length s2.length cs1 cs2 s1 s2 _ rfl rfl ((p1.out.2.1.ext yv).drewN _) ((p2.out.2.1.ext yv).drewN _) (by have := b1.out.2.1; omega) (by have := b2.out.2.1; omega)).mono ?_
                by_cases hs : s1 = s2
                · subst hs
                  rw [decide_eq_true rfl]
                  rintro e v3 ⟨rfl, q3, rfl⟩
                  go_wp2_with (go_at_call 65; refine Hid.out ?_)
                  refine Lib.hid ?_
                  refine (sameR6_any Ap1 Ap2 q1.length q2'.length cp1 cp2 q1 q2' _ rfl rfl ((p1.out.2.2.ext yv).drewN _) ((p2.out.2.2.ext yv).drewN _) (by have := b1.out.2.2; omega) (by have := b2.out.2.2; omega)).mono ?_
                  by_cases hp : q1 = q2'
                  · subst hp
                    rw [decide_eq_true rfl]
                    rintro e v4 ⟨rfl, q4, rfl⟩
                    have hw2 : IntKind.i64.wrap ((i:Int) + 1) = (i : Int) + 1 := IntWalk.i64_in _ (by omega)
                    go_wp2_with (fail)
                    go_roundg (n - (i + 1))
                    case measure => have := HG.out; omega
                    case rel => exact ⟨i + 1, by omega, rfl, by go_num, below_drewN YV.out _, Lib.hid (by rw [← HI'.out]; simp only [List.cons.injEq, true_and])⟩
                  · rw [decide_eq_false hp]
                    rintro e v4 ⟨rfl, q4, rfl⟩
                    have HP := Lib.hid hp
                    clear hp
                    go_wp2_with (fail)
                    go_ret
                    exact ⟨ret_bool (by rw [← HI'.out]; exact (decide_eq_false fun e => HP.out (Opd.mk.inj (List.cons.inj e).1).2.2.2.2).symm), below_drewN YV.out _⟩
                · rw [decide_eq_false hs]
                  rintro e v3 ⟨rfl, q3, rfl⟩
                  have HP := Lib.hid hs
                  clear hs
                  go_wp2_with (fail)
                  go_ret
                  exact ⟨ret_bool (by rw [← HI'.out]; exact (decide_eq_false fun e => HP.out (Opd.mk.inj (List.cons.inj e).1).2.2.2.1).symm), below_drewN YV.out _⟩
              · rw [decide_eq_false hr]
                rintro e v2 ⟨rfl, q2, rfl⟩
                have HP := Lib.hid hr
                clear hr
                go_wp2_with (fail)
                go_ret
                exact ⟨ret_bool (by rw [← HI'.out]; exact (decide_eq_false fun e => HP.out (Opd.mk.inj (List.cons.inj e).1).2.2.1).symm), below_drewN YV.out _⟩
            · have hnn : (n1 != n2) = true := by simp [hn]
              have HP := Lib.hid hn
              clear hn
              go_wp2_with (fail)
              go_ret
              exact ⟨ret_bool (by rw [← HI'.out]; exact (decide_eq_false fun e => HP.out (Opd.mk.inj (List.cons.inj e).1).2.1).symm), YV.out⟩
          · have hkk : (k1 != k2) = true := by simp [hk]
            have HP := Lib.hid hk
            clear hk
            go_wp2_with (fail)
            go_ret
            exact ⟨ret_bool (by rw [← HI'.out]; exact (decide_eq_false fun e => HP.out (Opd.mk.inj (List.cons.inj e).1).1).symm), YV.out⟩
        · have ya := ext_alloc wr (.cells #[.int .u8 k2, .int .i64 n2, .slice Ar2 r2.length cr2, .slice As2 s2.length cs2, .slice Ap2 q2'.length cp2] 54)
          have yb := ext_alloc (wr.alloc (.cells #[.int .u8 k2, .int .i64 n2, .slice Ar2 r2.length cr2, .slice As2 s2.length cs2, .slice Ap2 q2'.length cp2] 54)) (.cells #[.int .u8 k1, .int .i64 n1, .slice Ar1 r1.length cr1, .slice As1 s1.length cs1, .slice Ap1 q1.length cp1] 54)
          have ga := (yb.block wr.heap.size (by simp)).trans (heap_alloc_new wr (.cells #[.int .u8 k2, .int .i64 n2, .slice Ar2 r2.length cr2, .slice As2 s2.length cs2, .slice Ap2 q2'.length cp2] 54))
          have gb := heap_alloc_new (wr.alloc (.cells #[.int .u8 k2, .int .i64 n2, .slice Ar2 r2.length cr2, .slice As2 s2.length cs2, .slice Ap2 q2'.length cp2] 54)) (.cells #[.int .u8 k1, .int .i64 n1, .slice Ar1 r1.length cr1, .slice As1 s1.length cs1, .slice Ap1 q1.length cp1] 54)
          rw [World.size_alloc] at gb
          rw [hsz] at ga gb
          refine abs_world (F := fun v => Below w.heap.size w v ∧ v.heap[sz + 1]? = some (.cells #[.int .u8 k1, .int .i64 n1, .slice Ar1 r1.length cr1, .slice As1 s1.length cs1, .slice Ap1 q1.length cp1] 54 (0, 0)) ∧ v.heap[sz]? = some (.cells #[.int .u8 k2, .int .i64 n2, .slice Ar2 r2.length cr2, .slice As2 s2.length cs2, .slice Ap2 q2'.length cp2] 54 (0, 0))) ⟨(ext_trans y (ext_trans ya yb)).drew, gb, ga⟩ ?_
          clear ya yb ga gb hsz v1 v2 v3 v4
          obtain ⟨sz1, hs1⟩ : ∃ z, sz + 1 = z := ⟨_, rfl⟩
          rw [hs1]
          clear hs1
          intro v
          rintro ⟨yv, g6, g7⟩
          obtain ⟨c0, c1, c2, c3, c4⟩ := box_at g6
          obtain ⟨e0, e1, e2, e3, e4⟩ := box_at g7
          have YV := Lib.hid yv
          clear g6 g7
          by_cases hk : k1 = k2
          · subst hk
            have hkk : (k1 != k1) = false := by simp
            by_cases hn : n1 = n2
            · subst hn
              have hnn : (n1 != n1) = false := by simp
              go_wp2_with (go_at_call 64; refine Hid.out ?_)
              refine Lib.hid ?_
              refine (refSame_any Ar1 Ar2 r1.length r2.length cr1 cr2 r1 r2 v rfl rfl (p1.out.1.ext yv) (p2.out.1.ext yv) (by have := b1.out.1; omega) (by have := b2.out.1; omega)).mono ?_
              by_cases hr : r1 = r2
              · subst hr
                rw [decide_eq_true rfl]
                rintro e v2 ⟨rfl, q2, rfl⟩
                go_wp2_with (go_at_call 46; refine Hid.out ?_)
                refine Lib.hid ?_
                refine (sameA_any As1 As2 s1.length s2.length cs1 cs2 s1 s2 _ rfl rfl ((p1.out.2.1.ext yv).drewN _) ((p2.out.2.1.ext yv).drewN _) (by have := b1.out.2.1; omega) (by have := b2.out.2.1; omega)).mono ?_
                by_cases hs : s1 = s2
                · subst hs
                  rw [decide_eq_true rfl]
                  rintro e v3 ⟨rfl, q3, rfl⟩
                  go_wp2_with (go_at_call 65; refine Hid.out ?_)
                  refine Lib.hid ?_
                  refine (sameR6_any Ap1 Ap2 q1.length q2'.length cp1 cp2 q1 q2' _ rfl rfl ((p1.out.2.2.ext yv).drewN _) ((p2.out.2.2.ext yv).drewN _) (by have := b1.out.2.2; omega) (by have := b2.out.2.2; omega)).mono ?_
                  by_cases hp : q1 = q2'
                  · subst hp
                    rw [decide_eq_true rfl]
                    rintro e v4 ⟨rfl, q4, rfl⟩
                    have hw2 : IntKind.i64.wrap ((i:Int) + 1) = (i : Int) + 1 := IntWalk.i64_in _ (by omega)
                    go_wp2_with (fail)
                    go_roundg (n - (i + 1))
                    case measure => have := HG.out; omega
                    case rel => exact ⟨i + 1, by omega, rfl, by go_num, below_drewN YV.out _, Lib.hid (by rw [← HI'.out]; simp only [List.cons.injEq, true_and])⟩
                  · rw [decide_eq_false hp]
                    rintro e v4 ⟨rfl, q4, rfl⟩
                    have HP := Lib.hid hp
                    clear hp
                    go_wp2_with (fail)
                    go_ret
                    exact ⟨ret_bool (by rw [← HI'.out]; exact (decide_eq_false fun e => HP.out (Opd.mk.inj (List.cons.inj e).1).2.2.2.2).symm), below_drewN YV.out _⟩
                · rw [decide_eq_false hs]
                  rintro e v3 ⟨rfl, q3, rfl⟩
                  have HP := Lib.hid hs
                  clear hs
                  go_wp2_with (fail)
                  go_ret
                  exact ⟨ret_bool (by rw [← HI'.out]; exact (decide_eq_false fun e => HP.out (Opd.mk.inj (List.cons.inj e).1).2.2.2.1).symm), below_drewN YV.out _⟩
              · rw [decide_eq_false hr]
                rintro e v2 ⟨rfl, q2, rfl⟩
                have HP := Lib.hid hr
                clear hr
                go_wp2_with (fail)
                go_ret
                exact ⟨ret_bool (by rw [← HI'.out]; exact (decide_eq_false fun e => HP.out (Opd.mk.inj (List.cons.inj e).1).2.2.1).symm), below_drewN YV.out _⟩
            · have hnn : (n1 != n2) = true := by simp [hn]
              have HP := Lib.hid hn
              clear hn
              go_wp2_with (fail)
              go_ret
              exact ⟨ret_bool (by rw [← HI'.out]; exact (decide_eq_false fun e => HP.out (Opd.mk.inj (List.cons.inj e).1).2.1).symm), YV.out⟩
          · have hkk : (k1 != k2) = true := by simp [hk]
            have HP := Lib.hid hk
            clear hk
            go_wp2_with (fail)
            go_ret
            exact ⟨ret_bool (by rw [← HI'.out]; exact (decide_eq_false fun e => HP.out (Opd.mk.inj (List.cons.inj e).1).1).symm), YV.out⟩
      · have hlt' : ¬ (i : Int) < (n : Int) := by omega
        go_wp2_with (fail)
        go_ret
        exact ⟨ret_bool (by rw [← HI.out, List.drop_eq_nil_of_le (by have := N.out; omega), List.drop_eq_nil_of_le (by have := M.out; omega)]; rfl), y⟩
  · have hne : ((n : Int) != m) = true := by simp [hnm]
    go_enter Tryz.func20, Tryz.ntmps20
    go_wp2_with (fail)
    go_ret
    refine ⟨ret_bool ?_, Below.refl _ _⟩
    rw [← HR.out]
    refine (decide_eq_false fun e => ?_).symm
    have h3 := N.out
    have h4 := M.out
    have h5 := congrArg List.length e
    rw [HL.out, HL.out] at h5
    omega
end Go.Proofs.YtnppoifgfehpfaaGreatDoor
/- rubricref15.Same at ops at hand. -/
namespace Go.Proofs.YtnppoifgfehpfaaGreatDoor
open Go.RowKit
theorem same15D {w : World} {A B : Option Addr} {n c n2 c2 : Nat} {x z : List OpS} (h1 : OpsAt w A n x) (h2 : OpsAt w B n2 z) {b : Bool} (hb : decide (osOf x = osOf z) = b) :
    Calls Tryz.prog 20 #[.slice A n c, .slice B n2 c2] w fun e w' => e = .returned (.bool b) ∧ Below w.heap.size w w' := by
  have h := same15_any A B n n2 c c2 x z w h1.len h2.len h1.rd h2.rd (by have := h1.b; omega) (by have := h2.b; omega) (fun o ho => by obtain ⟨_, _, a, b, c⟩ := h1.ok o ho; omega) (fun o ho => by obtain ⟨_, _, a, b, c⟩ := h2.ok o ho; omega)
  rw [hb] at h
  exact h
end Go.Proofs.YtnppoifgfehpfaaGreatDoor
/- The walk of the document's Get of a set (rubricref05). -/
namespace Go.Proofs.YtnppoifgfehpfaaGreatDoor
open Go.RowKit
set_option linter.unusedVariables false
set_option linter.unusedSimpArgs false

theorem getA_drop {l : List At} {m : Nat} {x : At} {k : Int} {R : Option V} (hd : l.drop m = x :: l.drop (m + 1)) (h : getA (l.drop m) k = R) (hx : x.key ≠ k) : getA (l.drop (m + 1)) k = R := by
  rw [hd] at h
  rw [← h]
  simp [getA, hx]
theorem getA_found {l : List At} {m : Nat} {x : At} {k : Int} {R : Option V} (hd : l.drop m = x :: l.drop (m + 1)) (h : getA (l.drop m) k = R) (hx : x.key = k) : R = some x.v := by
  rw [hd] at h
  rw [← h]
  simp [getA, hx]
theorem getA_end {l : List At} {m : Nat} {k : Int} {R : Option V} (hm : l.length ≤ m) (h : getA (l.drop m) k = R) : R = none := by
  rw [List.drop_eq_nil_of_le hm] at h
  rw [← h]
  rfl
/-- what the document's Get answers -/
def GetOut5 (l : List At) (key : Int) (w : World) (e : Ending) (w' : World) : Prop :=
  ∃ k n f s q, e = .returned (.tuple #[.agg #[.int .u8 k, .int .i64 n, .int .u64 f, .string s], .bool q]) ∧ (getA l key).getD V.zero = ⟨k, n, f, s⟩ ∧ (getA l key).isSome = q ∧ Below w.heap.size w w'
set_option maxRecDepth 100000 in
set_option maxHeartbeats 800000 in
theorem get05_any (A : Option Addr) (n c : Nat) (l : List At) (id : Int) (w : World) (hn : n = l.length) (h : RdAt w w.heap.size A l) (hb : n ≤ 140737488355328) :
    Calls Tryz.prog 147 #[.slice A n c, .int .i64 id] w (GetOut5 l id w) := by
  have N := Lib.hid hn
  generalize hR : getA l id = R
  have HR := Lib.hid hR
  clear hn hR
  unfold GetOut5
  rw [HR.out]
  have y0 := ext_alloc w (.cells #[.int .u8 0, .int .i64 0, .int .u64 0, .string ⟨#[]⟩] 57)
  have HB := Lib.hid (heap_alloc_new w (.cells #[.int .u8 0, .int .i64 0, .int .u64 0, .string ⟨#[]⟩] 57))
  go_enter Tryz.func147, Tryz.ntmps147
  go_wp2_with (fail)
  go_loopg [6] n (fun g iv wr => ∃ m : Nat, m ≤ n ∧ g = n - m ∧ iv = .int .i64 (m : Int) ∧ wr = w.alloc (.cells #[.int .u8 0, .int .i64 0, .int .u64 0, .string ⟨#[]⟩] 57) ∧ Hid (getA (l.drop m) id = R))
  case atStart => exact ⟨0, by omega, rfl, rfl, rfl, Lib.hid (by rw [List.drop_zero]; exact HR.out)⟩
  case round =>
    obtain ⟨m, hm, hg, rfl, rfl, HI⟩ := hrel
    have HG := Lib.hid hg
    clear hg HR
    by_cases hlt : m < n
    · have hl1 : m < l.length := by have := N.out; omega
      obtain ⟨ad, x, rfl, had, hd1, _, hc0⟩ := h.el hl1
      have hc1 := hc0.keep (w' := w.alloc (.cells #[.int .u8 0, .int .i64 0, .int .u64 0, .string ⟨#[]⟩] 57)) (fun q hq => World.cell?_alloc_lt w _ q (by rw [hq, add_block]; exact had))
      have HD := Lib.hid hd1
      obtain ⟨x1, x2, x3, x4, x5⟩ := x
      obtain ⟨r0, r1, r2, r3, r4⟩ := at_cells hc1
      clear hc0 hc1 hd1
      have hw2 : IntKind.i64.wrap ((m:Int) + 1) = (m : Int) + 1 := IntWalk.i64_in _ (by omega)
      obtain ⟨b0, b1, b2, b3⟩ := box_v HB.out
      by_cases hle : x1 = id
      · subst hle
        go_wp2_with (fail)
        refine bodyPost_ret (v := .tuple #[.agg #[.int .u8 x2, .int .i64 x3, .int .u64 x4, .string x5], .bool true]) (by simp [results, Tryz.results147, go_sem]) rfl ?_
        have hr := getA_found HD.out HI.out rfl
        exact ⟨x2, x3, x4, x5, true, rfl, by rw [hr]; rfl, by rw [hr]; rfl, ext_alloc w _⟩
      · go_wp2_with (fail)
        go_roundg (n - (m + 1))
        case measure => have := HG.out; omega
        case rel => exact ⟨m + 1, by omega, rfl, by go_num, rfl, Lib.hid (getA_drop HD.out HI.out hle)⟩
    · have HE := Lib.hid (getA_end (m := m) (by have := N.out; omega) HI.out)
      go_wp2_with (fail)
      refine bodyPost_ret (v := .tuple #[.agg #[.int .u8 0, .int .i64 0, .int .u64 0, .string ⟨#[]⟩], .bool false]) (by simp [results, Tryz.results147, go_sem]) rfl ?_
      exact ⟨0, 0, 0, ⟨#[]⟩, false, rfl, by rw [HE.out]; rfl, by rw [HE.out]; rfl, ext_alloc w _⟩
end Go.Proofs.YtnppoifgfehpfaaGreatDoor
/- Small words for the walks of laws: cells that stay along a world, answers that are known. -/
namespace Go.Proofs.YtnppoifgfehpfaaGreatDoor
open Go.RowKit
set_option linter.unusedVariables false
set_option linter.unusedSimpArgs false

/-- cells of a block that is there -/
def CellsIn (w : World) (p : Addr) (cs : List Value) : Prop := p.block < w.heap.size ∧ CellsAt w p cs
theorem CellsIn.ext {w w' : World} {p : Addr} {cs : List Value} (h : CellsIn w p cs) (y : Below w.heap.size w w') : CellsIn w' p cs :=
  ⟨Nat.lt_of_lt_of_le h.1 y.size, h.2.keep fun q hq => y.cell (by rw [hq]; exact h.1)⟩
theorem Rd.elIn {α : Type} {enc : α → List Value} {size : Nat} {w : World} {A : Option Addr} {l : List α} (h : Rd enc size w w.heap.size A l) {i : Nat} (hi : i < l.length) :
    ∃ ad a, A = some ad ∧ l.drop i = a :: l.drop (i + 1) ∧ l[i]? = some a ∧ CellsIn w (ad.add (i * size)) (enc a) := by
  obtain ⟨ad, a, h1, h2, h3, h4, h5⟩ := h.el hi
  exact ⟨ad, a, h1, h3, h4, by rw [add_block]; exact h2, h5⟩

theorem drew_ext {w w' : World} {d : Nat} (h : w' = w.drewN d) : Below w.heap.size w w' := by subst h; exact ext_drew w d
theorem findS_some (s : Nat) (l : List Ky) (id : Int) (w : World) (h : Sch w s l) {i n g : Int} {c d f : Bool} (hf : findK l id = some ⟨i, c, n, d, f, g⟩) :
    Calls Tryz.prog 113 #[.pointer (some ⟨s, 0, none⟩), .int .i64 id] w fun e w' => e = .returned (.tuple #[.agg #[.int .i64 i, .bool c, .int .u8 n, .bool d, .bool f, .int .i64 g], .bool true]) ∧ Below w.heap.size w w' :=
  (findS_any s l id w h).mono fun e w' ⟨i', c', n', d', f', g', q, he, h1, h2, y⟩ => by
    rw [hf] at h1 h2
    simp only [Option.getD_some, Option.isSome_some] at h1 h2
    injection h1 with a1 a2 a3 a4 a5 a6
    subst a1 a2 a3 a4 a5 a6 h2
    exact ⟨he, y⟩
theorem findS_none (s : Nat) (l : List Ky) (id : Int) (w : World) (h : Sch w s l) (hf : findK l id = none) :
    Calls Tryz.prog 113 #[.pointer (some ⟨s, 0, none⟩), .int .i64 id] w fun e w' => e = .returned (.tuple #[.agg #[.int .i64 0, .bool false, .int .u8 0, .bool false, .bool false, .int .i64 0], .bool false]) ∧ Below w.heap.size w w' :=
  (findS_any s l id w h).mono fun e w' ⟨i', c', n', d', f', g', q, he, h1, h2, y⟩ => by
    rw [hf] at h1 h2
    simp only [Option.getD_none, Option.isSome_none] at h1 h2
    injection h1 with a1 a2 a3 a4 a5 a6
    subst a1 a2 a3 a4 a5 a6 h2
    exact ⟨he, y⟩
theorem get05_some (A : Option Addr) (n c : Nat) (l : List At) (id : Int) (w : World) (hn : n = l.length) (h : RdAt w w.heap.size A l) (hb : n ≤ 140737488355328) {k m f : Int} {s : ByteArray} (hg : getA l id = some ⟨k, m, f, s⟩) :
    Calls Tryz.prog 147 #[.slice A n c, .int .i64 id] w fun e w' => e = .returned (.tuple #[.agg #[.int .u8 k, .int .i64 m, .int .u64 f, .string s], .bool true]) ∧ Below w.heap.size w w' :=
  (get05_any A n c l id w hn h hb).mono fun e w' ⟨k', m', f', s', q, he, h1, h2, y⟩ => by
    rw [hg] at h1 h2
    simp only [Option.getD_some, Option.isSome_some] at h1 h2
    injection h1 with a1 a2 a3 a4
    subst a1 a2 a3 a4 h2
    exact ⟨he, y⟩
theorem get05_none (A : Option Addr) (n c : Nat) (l : List At) (id : Int) (w : World) (hn : n = l.length) (h : RdAt w w.heap.size A l) (hb : n ≤ 140737488355328) (hg : getA l id = none) :
    Calls Tryz.prog 147 #[.slice A n c, .int .i64 id] w fun e w' => e = .returned (.tuple #[.agg #[.int .u8 0, .int .i64 0, .int .u64 0, .string ⟨#[]⟩], .bool false]) ∧ Below w.heap.size w w' :=
  (get05_any A n c l id w hn h hb).mono fun e w' ⟨k', m', f', s', q, he, h1, h2, y⟩ => by
    rw [hg] at h1 h2
    simp only [Option.getD_none, Option.isSome_none] at h1 h2
    injection h1 with a1 a2 a3 a4
    subst a1 a2 a3 a4 h2
    exact ⟨he, y⟩
end Go.Proofs.YtnppoifgfehpfaaGreatDoor
