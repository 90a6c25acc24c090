/- Merged texts: Known19, OpSize, SumX, Great19. -/
import Derived.Test.YtipoeidmblnbbaaGreatDoorPk19
import Derived.Test.YtipoeidmblnbbaaGreatDoorPk27
import Derived.Test.YtipoeidmblnbbaaGreatDoorPk10
import Derived.Test.YtipoeidmblnbbaaGreatDoorPk2
/- The walk of rubriclaw19.known. -/
namespace Go.Proofs.YtipoeidmblnbbaaGreatDoor
open Go.RowKit
set_option linter.unusedVariables false
set_option linter.unusedSimpArgs false

def kK19 : List Ky := [⟨1, false, 1, false, false, 0⟩]
/-- cells without sets -/
theorem rdcl_nil19 {w : World} {B : Nat} {A : Option Addr} {l : List ClS} (h : RdCs w B A l) (hl : ∀ x ∈ l, x.c.s = []) : RdCl w B A l := ⟨h, fun x hx => by rw [hl x hx]; exact Rd.nil⟩
def dA19 : List ClS := [⟨⟨97, []⟩, none, 0⟩, ⟨⟨98, []⟩, none, 0⟩, ⟨⟨10, []⟩, none, 0⟩]
def xA19 (b : Nat) : List OpS := [⟨opR 1 [], none, 0, none, 0, none, 0⟩, ⟨opI [99] [], some ⟨b, 0, none⟩, 1, none, 0, none, 0⟩, ⟨opD 1, none, 0, none, 0, none, 0⟩]
def xB19 : List OpS := [⟨opD 3, none, 0, none, 0, none, 0⟩]
theorem a19_zero (b : Nat) : applyN kK19 (xA19 b) (clsOf dA19) 9 = 0 := by kernel_rfl
theorem b19_six : applyN kK19 xB19 (clsOf dA19) 9 = 6 := by kernel_rfl
theorem a19_app (b : Nat) : app kK19 (units (osOf (xA19 b))) (clsOf dA19) = [⟨97, []⟩, ⟨99, []⟩, ⟨10, []⟩] := by kernel_rfl

set_option maxRecDepth 100000 in
set_option maxHeartbeats 3200000 in
theorem known19_any (w : World) (hT : Lib.Utf8Tabs 1 2 w) :
    Calls Tryz.prog 29 #[] w fun e w' => e = .returned (.bool true) ∧ Below w.heap.size w w' := by
  go_enter Tryz.func29, Tryz.ntmps29
  go_wp2_with (go_at_call 13; refine Hid.out ?_)
  refine Lib.hid ?_
  have y := ext_alloc w (.cells #[.int .i64 1, .bool false, .int .u8 1, .bool false, .bool false, .int .i64 0] 74)
  have rk : RdKy _ _ _ kK19 := Rd.new (enc := Ky.enc) (size := 6) Ky.enc_len w 74 kK19 (cs := #[.int .i64 1, .bool false, .int .u8 1, .bool false, .bool false, .int .i64 0]) rfl rfl
  refine (new_any (some ⟨w.heap.size, 0, none⟩) 1 1 kK19 _ rfl rk (by omega)).mono ?_
  rintro e v1 ⟨y1, ⟨hm, s, rfl, hS⟩ | ⟨hm, rfl⟩⟩
  rotate_left
  · have : mayKs kK19 = true := by decide +kernel
    rw [this] at hm; cases hm
  clear hm rk
  replace y := ext_trans y y1
  clear y1
  go_wp2_with (go_at_call 17; refine Hid.out ?_)
  refine Lib.hid ?_
  have ya := ext_alloc v1 (.cells #[.int .i32 97, .slice none 0 0, .int .i32 98, .slice none 0 0, .int .i32 10, .slice none 0 0] 59)
  have ra : RdCs _ _ _ dA19 := Rd.new (enc := ClS.enc) (size := 2) ClS.enc_len v1 59 dA19 (cs := #[.int .i32 97, .slice none 0 0, .int .i32 98, .slice none 0 0, .int .i32 10, .slice none 0 0]) rfl rfl
  have z1 : (v1.alloc (.cells #[.int .i32 97, .slice none 0 0, .int .i32 98, .slice none 0 0, .int .i32 10, .slice none 0 0] 59)).heap.size = v1.heap.size + 1 := by simp
  generalize v1.alloc (.cells #[.int .i32 97, .slice none 0 0, .int .i32 98, .slice none 0 0, .int .i32 10, .slice none 0 0] 59) = u1 at *
  have yb := ext_alloc u1 (.cells #[.int .i32 99] 21)
  have rb : RdI32 _ _ _ [99] := Rd.new (enc := encI32) (size := 1) encI32_len u1 21 [99] (cs := #[.int .i32 99]) rfl (b := v1.heap.size + 1) z1.symm
  have z2 : (u1.alloc (.cells #[.int .i32 99] 21)).heap.size = v1.heap.size + 2 := by rw [World.size_alloc, z1]
  generalize u1.alloc (.cells #[.int .i32 99] 21) = u2 at *
  have yc := ext_alloc u2 (.cells #[.int .u8 1, .int .i64 1, .slice none 0 0, .slice none 0 0, .slice none 0 0, .int .u8 2, .int .i64 0, .slice (some ⟨v1.heap.size + 1, 0, none⟩) 1 1, .slice none 0 0, .slice none 0 0, .int .u8 3, .int .i64 1, .slice none 0 0, .slice none 0 0, .slice none 0 0] 46)
  have hsub : ∀ z ∈ xA19 (v1.heap.size + 1), RdI32 u2 u2.heap.size z.Ar z.o.r ∧ RdAt u2 u2.heap.size z.As z.o.s ∧ RdCh u2 u2.heap.size z.Ap z.o.p := fun z hz => by
    simp only [xA19, List.mem_cons, List.not_mem_nil, or_false] at hz
    rcases hz with rfl | rfl | rfl
    · exact ⟨Rd.nil, Rd.nil, Rd.nil⟩
    · exact ⟨rb, Rd.nil, Rd.nil⟩
    · exact ⟨Rd.nil, Rd.nil, Rd.nil⟩
  have rc := rd_ops u2 (xA19 (v1.heap.size + 1)) hsub (cs := #[.int .u8 1, .int .i64 1, .slice none 0 0, .slice none 0 0, .slice none 0 0, .int .u8 2, .int .i64 0, .slice (some ⟨v1.heap.size + 1, 0, none⟩) 1 1, .slice none 0 0, .slice none 0 0, .int .u8 3, .int .i64 1, .slice none 0 0, .slice none 0 0, .slice none 0 0]) rfl (b := v1.heap.size + 2) z2.symm
  generalize u2.alloc (.cells #[.int .u8 1, .int .i64 1, .slice none 0 0, .slice none 0 0, .slice none 0 0, .int .u8 2, .int .i64 0, .slice (some ⟨v1.heap.size + 1, 0, none⟩) 1 1, .slice none 0 0, .slice none 0 0, .int .u8 3, .int .i64 1, .slice none 0 0, .slice none 0 0, .slice none 0 0] 46) = u3 at *
  have nA : ∀ x ∈ dA19, x.c.s = [] ∧ x.cs = 0 := fun x hx => by
    simp only [dA19, List.mem_cons, List.not_mem_nil, or_false] at hx
    rcases hx with rfl | rfl | rfl <;> exact ⟨rfl, rfl⟩
  have RA := Lib.hid (rdcl_nil19 (ra.ext (ext_trans yb yc)) (fun x hx => (nA x hx).1))
  have OKA : Hid (∀ o ∈ xA19 (v1.heap.size + 1), okOp o.o) := Lib.hid (fun z hz => by
    simp only [xA19, List.mem_cons, List.not_mem_nil, or_false] at hz
    rcases hz with rfl | rfl | rfl <;> exact ok_small _ rfl rfl (by simp [opR, opI, opD]))
  have CA : Hid (∀ z ∈ dA19, z.c.s.length ≤ 100000000 ∧ okVr z.c.s) := Lib.hid (fun x hx => by rw [(nA x hx).1]; exact ⟨by simp, fun c hc => by cases hc⟩)
  have CB : Hid (∀ z ∈ dA19, z.c.s.length ≤ z.cs ∧ z.cs ≤ maxLen) := Lib.hid (fun x hx => by rw [(nA x hx).1, (nA x hx).2]; exact ⟨Nat.le_refl _, by unfold maxLen; omega⟩)
  have Y3 := Lib.hid (ext_trans y (ext_trans ya (ext_trans yb yc)))
  have HS := Lib.hid (hS.ext (ext_trans ya (ext_trans yb yc)))
  refine (applyD_any s kK19 (some ⟨v1.heap.size, 0, none⟩) (some ⟨v1.heap.size + 2, 0, none⟩) 3 3 3 3 dA19 (xA19 (v1.heap.size + 1)) 9 u3 rfl rfl (by omega) (by omega) (by omega) RA.out rc HS.out CA.out CB.out OKA.out (Utf8Tabs_below hT Y3.out)).mono ?_
  clear ya yb yc ra rb rc z1 z2 hsub nA y hS OKA
  rintro e u4 ⟨y4, ⟨hne, _⟩ | ⟨_, A, c, L, rfl, hL, oL, pL⟩⟩
  · exact absurd (a19_zero _) hne
  rw [a19_app] at hL
  have LN : L.length = 3 := by have := congrArg List.length hL; rw [clsOf_len] at this; simpa using this
  obtain ⟨q, hq⟩ : ∃ q, L[1]? = some q := ⟨L[1], List.getElem?_eq_getElem (by omega)⟩
  have hqr : q.c.r = 99 := by
    have h1 := clsOf_at hq
    rw [hL] at h1
    have h2 : (⟨99, []⟩ : Cl) = q.c := by simpa using h1
    rw [← h2]
  have RL := Lib.hid (oL.rd ClS.enc_len)
  have QQ := Lib.hid hq
  have QR := Lib.hid hqr
  have LEN := Lib.hid LN
  have Y4 := Lib.hid (ext_trans Y3.out y4)
  have RA4 := Lib.hid (RA.out.ext y4)
  have HS4 := Lib.hid (HS.out.ext y4)
  clear hL oL pL hq hqr RA HS y4
  rw [LN]
  clear LN
  go_wp2_with (go_at_call 17; refine Hid.out ?_)
  refine Lib.hid ?_
  have yc := ext_alloc u4 (.cells #[.int .u8 3, .int .i64 3, .slice none 0 0, .slice none 0 0, .slice none 0 0] 46)
  have rc := rd_ops u4 xB19 (fun z hz => by
    simp only [xB19, List.mem_cons, List.not_mem_nil, or_false] at hz
    subst hz; exact ⟨Rd.nil, Rd.nil, Rd.nil⟩) (cs := #[.int .u8 3, .int .i64 3, .slice none 0 0, .slice none 0 0, .slice none 0 0]) rfl (b := u4.heap.size) rfl
  refine (applyD_any s kK19 (some ⟨v1.heap.size, 0, none⟩) (some ⟨u4.heap.size, 0, none⟩) 3 3 1 1 dA19 xB19 9 _ rfl rfl (by omega) (by omega) (by omega) (RA4.out.ext yc) rc (HS4.out.ext yc) CA.out CB.out (fun z hz => by
    simp only [xB19, List.mem_cons, List.not_mem_nil, or_false] at hz
    subst hz; exact ok_small _ rfl rfl (by simp [opD])) (Utf8Tabs_below hT (ext_trans Y4.out yc))).mono ?_
  rw [show ApplyOut kK19 xB19 (clsOf dA19) 9 = fun w e w' => ApplyOut kK19 xB19 (clsOf dA19) 9 w e w' from rfl]
  rintro e u5 ⟨y5, ⟨_, rfl⟩ | ⟨hz, _⟩⟩
  rotate_left
  · rw [b19_six] at hz; cases hz
  rw [b19_six]
  have Y5 := Lib.hid (ext_trans yc y5)
  obtain ⟨ad, x, hA, _, _, hx1, hc1⟩ := (RL.out.ext Y5.out).el (i := 1) (by rw [LEN.out]; omega)
  have hxq : x = q := by have := QQ.out; rw [hx1] at this; injection this
  subst hxq
  obtain ⟨⟨qr, qs⟩, qA, qc⟩ := x
  have hq9 : qr = 99 := QR.out
  subst hq9
  obtain ⟨t0', -⟩ := cl_cells hc1
  have t0 : u5.cell? ⟨ad.block, ad.off + 2, none⟩ = some (.int .i32 99) := t0'
  clear t0'
  have yy := ext_trans Y4.out Y5.out
  clear hx1 hc1 QQ QR yc rc y5
  subst hA
  go_wp2_with (fail)
  go_ret
  exact ⟨rfl, yy⟩
end Go.Proofs.YtipoeidmblnbbaaGreatDoor
/- The walk of rubricref15.Size: it answers how much a delta has. -/
namespace Go.Proofs.YtipoeidmblnbbaaGreatDoor
open Go.RowKit
set_option linter.unusedVariables false
set_option linter.unusedSimpArgs false

def szA (s : List At) : Nat := (s.map (fun a => a.v.s.size)).sum
def szC (p : List Ch) : Nat := (p.map (fun a => a.v.s.size)).sum
def szO (o : Opd) : Nat := 1 + o.r.length + o.s.length + o.p.length + szA o.s + szC o.p
def szX (x : List OpS) : Nat := (x.map (fun o => szO o.o)).sum
theorem sum_take1 {α : Type} (f : α → Nat) {l : List α} {i : Nat} {a : α} (h : l[i]? = some a) : ((l.take (i + 1)).map f).sum = ((l.take i).map f).sum + f a := by
  rw [List.take_add_one, h]; simp
theorem sum_take_le {α : Type} (f : α → Nat) (l : List α) (i : Nat) : ((l.take i).map f).sum ≤ (l.map f).sum := by
  conv => rhs; rw [← List.take_append_drop i l]
  rw [List.map_append, List.sum_append]; omega
theorem szX_mem {x : List OpS} {o : OpS} (h : o ∈ x) : szO o.o ≤ szX x := by
  induction x with
  | nil => cases h
  | cons a x ih =>
    show _ ≤ szO a.o + szX x
    rcases List.mem_cons.1 h with rfl | h
    · omega
    · have := ih h; omega

set_option maxRecDepth 100000 in
set_option maxHeartbeats 1600000 in
theorem sizeX2_any (A : Option Addr) (n c : Nat) (x : List OpS) (w : World) (hn : n = x.length) (h : RdOp w w.heap.size A x) (hb : n ≤ 140737488355328) (hz : szX x ≤ 4611686018427387904) :
    Calls Tryz.prog 67 #[.slice A n c] w fun e w' => e = .returned (.int .i64 (szX x : Int)) ∧ ∃ d, w' = w.drewN d := by
  have N := Lib.hid hn
  have Z := Lib.hid hz
  clear hn hz
  go_enter Tryz.func67, Tryz.ntmps67
  go_wp2_with (fail)
  go_loopg [3, 4] n (fun g av iv wr => ∃ (m a : Nat), m ≤ n ∧ g = n - m ∧ a = szX (x.take m) ∧ av = .int .i64 (a : Int) ∧ iv = .int .i64 (m : Int) ∧ ∃ d, wr = w.drewN d)
  case atStart => exact ⟨0, 0, by omega, rfl, rfl, rfl, rfl, 0, rfl⟩
  case round =>
    obtain ⟨m, a, hm, hg, ha, rfl, rfl, d, rfl⟩ := hrel
    have HG := Lib.hid hg
    have HA := Lib.hid ha
    clear hg ha
    by_cases hlt : m < n
    · have hl1 : m < x.length := by have := N.out; omega
      obtain ⟨ad, o, had0, had, hd1, hx1, hc0⟩ := h.1.el hl1
      subst had0
      have hmem := List.mem_of_getElem? hx1
      obtain ⟨g1, g2, g3⟩ := h.2 o hmem
      have TK : Hid (szX (x.take (m + 1)) = a + szO o.o) := Lib.hid (by rw [HA.out]; exact sum_take1 (fun o : OpS => szO o.o) hx1)
      have TB : Hid (a + szO o.o ≤ 4611686018427387904) := Lib.hid (by rw [← TK.out]; exact Nat.le_trans (sum_take_le (fun o : OpS => szO o.o) x (m + 1)) Z.out)
      obtain ⟨⟨k, nn, r, s, p⟩, Ar, cr, As, cs, Ap, cp⟩ := o
      simp only at g1 g2 g3 TK TB
      obtain ⟨r0, r1, r2, r3, r4⟩ := op_cells hc0
      obtain ⟨nr, hnr⟩ : ∃ X, r.length = X := ⟨_, rfl⟩
      obtain ⟨ns, hns⟩ : ∃ X, s.length = X := ⟨_, rfl⟩
      obtain ⟨np, hnp⟩ : ∃ X, p.length = X := ⟨_, rfl⟩
      have SO : Hid (szO ⟨k, nn, r, s, p⟩ = 1 + nr + ns + np + szA s + szC p) := Lib.hid (by rw [← hnr, ← hns, ← hnp]; rfl)
      have NS := Lib.hid hns
      have NP := Lib.hid hnp
      have B0 : a + 1 + nr + ns + np ≤ 4611686018427387904 := by have := TB.out; rw [SO.out] at this; omega
      rw [hnr] at r2
      rw [hns] at r3
      rw [hnp] at r4
      have hw2 : IntKind.i64.wrap ((m:Int) + 1) = (m : Int) + 1 := IntWalk.i64_in _ (by omega)
      have e1 : IntKind.i64.wrap ((a:Int) + 1) = (a : Int) + 1 := IntWalk.i64_in _ (by omega)
      have e2 : IntKind.i64.wrap ((a:Int) + 1 + (nr : Int)) = (a : Int) + 1 + nr := IntWalk.i64_in _ (by omega)
      have e3 : IntKind.i64.wrap ((a:Int) + 1 + (nr : Int) + (ns : Int)) = (a : Int) + 1 + nr + ns := IntWalk.i64_in _ (by omega)
      have e4 : IntKind.i64.wrap ((a:Int) + 1 + (nr : Int) + (ns : Int) + (np : Int)) = (a : Int) + 1 + nr + ns + np := IntWalk.i64_in _ (by omega)
      clear hc0 hd1 hx1 hmem hns hnp hnr
      go_wp2_with (fail)
      go_quiet (fail)
      go_wp2_with (fail)
      clear e1 e2 e3
      go_loopg [3, 5] ns (fun g av iv wi => ∃ (j b : Nat), j ≤ ns ∧ g = ns - j ∧ b = a + 1 + nr + ns + np + szA (s.take j) ∧ av = .int .i64 (b : Int) ∧ iv = .int .i64 (j : Int) ∧ ∃ d, wi = w.drewN d)
      case atStart => exact ⟨0, a + 1 + nr + ns + np, by omega, rfl, rfl, by first | rfl | (go_num) | (simp only [e4]; rfl) | (congr 1), rfl, _, (by first | rfl | exact World.drewN_drewN _ _ _)⟩
      case round =>
        obtain ⟨j, b, hj, hg2, hbj, rfl, rfl, d2, rfl⟩ := hrel
        have HG2 := Lib.hid hg2
        have HB := Lib.hid hbj
        clear hg2 hbj e4
        by_cases hls : j < ns
        · obtain ⟨ad2, z, e2, _, _, hzj, hz⟩ := g2.el (i := j) (by have := NS.out; omega)
          subst e2
          have T2 : Hid (szA (s.take (j + 1)) = szA (s.take j) + z.v.s.size) := Lib.hid (sum_take1 (fun a : At => a.v.s.size) hzj)
          have T3 : Hid (szA (s.take (j + 1)) ≤ szA s) := Lib.hid (sum_take_le (fun a : At => a.v.s.size) s (j + 1))
          obtain ⟨z1, ⟨z2, z3, z4, z5⟩⟩ := z
          simp only at T2
          obtain ⟨s0, s1, s2, s3, s4⟩ := at_cells hz
          have hw3 : IntKind.i64.wrap ((j:Int) + 1) = (j : Int) + 1 := IntWalk.i64_in _ (by omega)
          have bnd : b + z5.size ≤ 4611686018427387904 := by
            have h1 := TB.out; have h2 := SO.out; have h3 := T2.out; have h4 := T3.out; have h5 := HB.out; omega
          have hw4 : IntKind.i64.wrap ((b:Int) + (z5.size : Int)) = (b : Int) + z5.size := IntWalk.i64_in _ (by omega)
          clear hz hzj
          go_wp2_with (fail)
          go_roundg (ns - (j + 1))
          case measure => have := HG2.out; omega
          case rel => exact ⟨j + 1, b + z5.size, by omega, rfl, by have := HB.out; have := T2.out; omega, by go_num, by go_num, _, rfl⟩
        · have hjn : j = ns := by omega
          have HB9 : Hid (b = a + 1 + nr + ns + np + szA s) := Lib.hid (by have := HB.out; rwa [hjn, List.take_of_length_le (by rw [NS.out]; omega)] at this)
          clear hjn
          go_wp2_with (fail)
          go_loopg [3, 6] np (fun g av iv wi => ∃ (j q : Nat), j ≤ np ∧ g = np - j ∧ q = b + szC (p.take j) ∧ av = .int .i64 (q : Int) ∧ iv = .int .i64 (j : Int) ∧ ∃ d, wi = w.drewN d)
          case atStart => exact ⟨0, b, by omega, rfl, rfl, rfl, rfl, _, rfl⟩
          case round =>
            obtain ⟨t, q, ht, hg2, hq, rfl, rfl, d2, rfl⟩ := hrel
            have HG3 := Lib.hid hg2
            have HQ := Lib.hid hq
            clear hg2 hq
            by_cases hls : t < np
            · obtain ⟨ad2, z, e2, _, _, hzj, hz⟩ := g3.el (i := t) (by have := NP.out; omega)
              subst e2
              have T2 : Hid (szC (p.take (t + 1)) = szC (p.take t) + z.v.s.size) := Lib.hid (sum_take1 (fun a : Ch => a.v.s.size) hzj)
              have T3 : Hid (szC (p.take (t + 1)) ≤ szC p) := Lib.hid (sum_take_le (fun a : Ch => a.v.s.size) p (t + 1))
              obtain ⟨z1, z6, ⟨z2, z3, z4, z5⟩⟩ := z
              simp only at T2
              obtain ⟨s0, s1, s2, s3, s4, s5⟩ := ch_cells hz
              have hw3 : IntKind.i64.wrap ((t:Int) + 1) = (t : Int) + 1 := IntWalk.i64_in _ (by omega)
              have bnd : q + z5.size ≤ 4611686018427387904 := by
                have h1 := TB.out; have h2 := SO.out; have h3 := T2.out; have h4 := T3.out; have h5 := HB9.out; have h6 := HQ.out; omega
              have hw4 : IntKind.i64.wrap ((q:Int) + (z5.size : Int)) = (q : Int) + z5.size := IntWalk.i64_in _ (by omega)
              clear hz hzj
              go_wp2_with (fail)
              go_roundg (np - (t + 1))
              case measure => have := HG3.out; omega
              case rel => exact ⟨t + 1, q + z5.size, by omega, rfl, by have := HQ.out; have := T2.out; omega, by go_num, by go_num, _, rfl⟩
            · have htn : t = np := by omega
              have HQ9 : Hid (q = szX (x.take (m + 1))) := Lib.hid (by
                have h1 := HQ.out
                rw [htn, List.take_of_length_le (by rw [NP.out]; omega)] at h1
                rw [TK.out, SO.out, h1, HB9.out]; omega)
              clear htn
              go_wp2_with (fail)
              go_roundg (n - (m + 1))
              case measure => have := HG.out; omega
              case rel => exact ⟨m + 1, q, by omega, rfl, HQ9.out, rfl, by go_num, _, rfl⟩
    · have HA9 : Hid (a = szX x) := Lib.hid (by have := HA.out; rwa [List.take_of_length_le (by have := N.out; omega)] at this)
      have e := HA9.out
      clear HA9 HA
      go_wp2_with (fail)
      go_ret
      subst e
      exact ⟨rfl, _, rfl⟩
end Go.Proofs.YtipoeidmblnbbaaGreatDoor
/- How much some deltas have together. -/
namespace Go.Proofs.YtipoeidmblnbbaaGreatDoor
set_option linter.unusedVariables false
set_option linter.unusedSimpArgs false

theorem szX_len (x : List OpS) : x.length ≤ szX x := by
  induction x with
  | nil => exact Nat.zero_le _
  | cons a x ih =>
    show _ ≤ szO a.o + szX x
    unfold szO
    rw [List.length_cons]; omega
def sumX (L : List SX) : Nat := (L.map (fun s => szX s.l)).sum
end Go.Proofs.YtipoeidmblnbbaaGreatDoor
/- The walk of rubriclaw19.great. -/
namespace Go.Proofs.YtipoeidmblnbbaaGreatDoor
open Go.RowKit
set_option linter.unusedVariables false
set_option linter.unusedSimpArgs false

def Great19 (n0 n1 : Nat) (d : List ClS) (L : List SX) (w : World) (e : Ending) (w' : World) : Prop :=
  ∃ b : Bool, e = .returned (.bool b) ∧ (b = false → n0 ≤ 64 ∧ n1 ≤ 400 ∧ (∀ c ∈ d, c.c.s.length ≤ 64) ∧ sumX L ≤ 5000) ∧ ∃ d, w' = w.drewN d
set_option maxRecDepth 100000 in
set_option maxHeartbeats 1600000 in
theorem great19_any (A0 A1 A2 : Option Addr) (n0 c0 n1 c1 n c : Nat) (d : List ClS) (L : List SX) (w : World) (hn : n = L.length) (h : Rd SX.enc 1 w w.heap.size A2 L) (hb : n ≤ 1000) (h0 : n0 ≤ 140737488355328)
    (hs : ∀ s ∈ L, RdOp w w.heap.size s.A s.l ∧ s.l.length ≤ 140737488355328) (hz : sumX L ≤ 4611686018427387904)
    (hn1 : n1 = d.length) (h1 : RdCl w w.heap.size A1 d) (b1 : n1 ≤ 140737488355328) (hd : ∀ y ∈ d, y.c.s.length ≤ 140737488355328) :
    Calls Tryz.prog 28 #[.slice A0 n0 c0, .slice A1 n1 c1, .slice A2 n c] w (Great19 n0 n1 d L w) := by
  have N := Lib.hid hn
  have HS := Lib.hid hs
  have HZ := Lib.hid hz
  have N1 := Lib.hid hn1
  have H1 := Lib.hid h1
  have HD := Lib.hid hd
  clear hn hs hz hn1 h1 hd
  go_enter Tryz.func28, Tryz.ntmps28
  go_wp2_with (fail)
  go_loopg [7, 11] n (fun g av iv wr => ∃ (m a : Nat), m ≤ n ∧ g = n - m ∧ a = sumX (L.take m) ∧ av = .int .i64 (a : Int) ∧ iv = .int .i64 (m : Int) ∧ ∃ d, wr = w.drewN d)
  case atStart => exact ⟨0, 0, by omega, rfl, rfl, rfl, rfl, 0, rfl⟩
  case round =>
    obtain ⟨m, a, hm, hg, ha, rfl, rfl, d3, rfl⟩ := hrel
    have HG := Lib.hid hg
    have HA := Lib.hid ha
    clear hg ha
    by_cases hlt : m < n
    · obtain ⟨ad, z, had0, had, _, hx1, hc0⟩ := h.el (i := m) (by have := N.out; omega)
      subst had0
      obtain ⟨f1, f2⟩ := HS.out z (List.mem_of_getElem? hx1)
      have TK : Hid (sumX (L.take (m + 1)) = a + szX z.l) := Lib.hid (by rw [HA.out]; exact sum_take1 (fun s : SX => szX s.l) hx1)
      have TB : Hid (a + szX z.l ≤ 4611686018427387904) := Lib.hid (by rw [← TK.out]; exact Nat.le_trans (sum_take_le (fun s : SX => szX s.l) L (m + 1)) HZ.out)
      obtain ⟨A3, c3, x⟩ := z
      simp only at f1 f2 TK TB
      have q0 : _ = some (Value.slice A3 x.length c3) := hc0 0 _ rfl
      rw [add_zero', Nat.mul_one] at q0
      obtain ⟨n3, hn3⟩ : ∃ n3, n3 = x.length := ⟨_, rfl⟩
      rw [← hn3] at q0 f2
      have N3 := Lib.hid hn3
      have hw2 : IntKind.i64.wrap ((m:Int) + 1) = (m : Int) + 1 := IntWalk.i64_in _ (by omega)
      clear hn3 hx1 hc0
      go_wp2_with (go_at_call 67; refine Hid.out ?_)
      refine Lib.hid ?_
      refine (sizeX2_any A3 n3 c3 x (w.drewN d3) N3.out ⟨f1.1.drewN _, fun q hq => ⟨(f1.2 q hq).1.drewN _, (f1.2 q hq).2.1.drewN _, (f1.2 q hq).2.2.drewN _⟩⟩ f2 (by have := TB.out; omega)).mono ?_
      obtain ⟨sz, hsz⟩ : ∃ X, szX x = X := ⟨_, rfl⟩
      rw [hsz] at TK TB ⊢
      rintro e w2 ⟨rfl, d2, rfl⟩
      have hw4 : IntKind.i64.wrap ((a:Int) + (sz : Int)) = (a : Int) + sz := IntWalk.i64_in _ (by have := TB.out; omega)
      clear hsz
      go_wp2_with (fail)
      go_roundg (n - (m + 1))
      case measure => have := HG.out; omega
      case rel => exact ⟨m + 1, a + sz, by omega, rfl, TK.out.symm, by go_num, by go_num, _, (by first | rfl | exact World.drewN_drewN _ _ _)⟩
    · have HA9 : Hid (a = sumX L) := Lib.hid (by have := HA.out; rwa [List.take_of_length_le (by have := N.out; omega)] at this)
      have AB : a ≤ 4611686018427387904 := by rw [HA9.out]; exact HZ.out
      by_cases h64 : (64 : Int) < (n0 : Int)
      · go_wp2_with (fail)
        go_ret
        exact ⟨true, rfl, (by intro h; cases h), _, rfl⟩
      · go_wp2_with (go_at_call 11; refine Hid.out ?_)
        refine Lib.hid ?_
        refine (great18_any A1 n1 c1 d 400 _ N1.out ⟨H1.out.1.drewN _, fun x hx => (H1.out.2 x hx).drewN _⟩ b1 HD.out).mono ?_
        rintro e w1 ⟨g1, rfl, hg1, x1, rfl⟩
        cases g1 with
        | true =>
          clear hg1
          go_wp2_with (fail)
          go_ret
          exact ⟨true, rfl, (by intro h; cases h), _, (by first | exact World.drewN_drewN _ _ _ | rfl)⟩
        | false =>
          have h2 := hg1 rfl
          have H2 := Lib.hid h2
          clear hg1 h2
          go_wp2_with (fail)
          go_ret
          exact ⟨decide ((5000 : Int) < (a : Int)), rfl, fun h5 => ⟨by omega, by have := H2.out.1; omega, H2.out.2, by have := of_decide_eq_false h5; rw [← HA9.out]; omega⟩, _, (by first | exact World.drewN_drewN _ _ _ | rfl)⟩
end Go.Proofs.YtipoeidmblnbbaaGreatDoor
