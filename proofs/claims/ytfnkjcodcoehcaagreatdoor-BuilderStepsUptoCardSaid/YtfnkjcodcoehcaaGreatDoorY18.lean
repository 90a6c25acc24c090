/- Merged texts: SameCl, FragW, DocKit, UMade, OpsCap, FragLaw2, BuildR, LinesLaw, Group. -/
import Derived.Test.YtfnkjcodcoehcaaGreatDoorY11
import Derived.Test.YtfnkjcodcoehcaaGreatDoorY9
import Derived.Test.YtfnkjcodcoehcaaGreatDoorY15
import Derived.Test.YtfnkjcodcoehcaaGreatDoorY16
import Derived.Test.YtfnkjcodcoehcaaGreatDoorY17
import Derived.Test.YtfnkjcodcoehcaaGreatDoorY13
import Derived.Test.YtfnkjcodcoehcaaGreatDoorY12
import Derived.Test.YtfnkjcodcoehcaaGreatDoorY7
import Derived.Test.YtfnkjcodcoehcaaGreatDoorY5
import Derived.Deep.LoopGhost
import Derived.Deep.DeepMust
import Derived.Test.YtfnkjcodcoehcaaGreatDoorY4
namespace Go.Proofs.YtfnkjcodcoehcaaGreatDoor
open Go.RowKit
set_option linter.unusedVariables false
set_option linter.unusedSimpArgs false

set_option maxRecDepth 100000 in
set_option maxHeartbeats 400000 in
theorem sameCl1_any (r1 r2 : Int) (p1 p2 : List At) (A1 A2 : Option Addr) (c1 c2 : Nat) (w : World) (h1 : RdAt w w.heap.size A1 p1) (h2 : RdAt w w.heap.size A2 p2) (b1 : p1.length ≤ 140737488355328) (b2 : p2.length ≤ 140737488355328) :
    Calls Tryz.prog 140 #[.agg #[.int .i32 r1, .slice A1 p1.length c1], .agg #[.int .i32 r2, .slice A2 p2.length c2]] w fun e w' => e = .returned (.bool (decide ((⟨r1, p1⟩ : Cl) = ⟨r2, p2⟩))) ∧ Below w.heap.size w w' := by
  have y1 := ext_alloc w (.cells #[.int .i32 r1, .slice A1 p1.length c1] 38)
  have y2 := ext_alloc (w.alloc (.cells #[.int .i32 r1, .slice A1 p1.length c1] 38)) (.cells #[.int .i32 r2, .slice A2 p2.length c2] 38)
  have yy := ext_trans y1 y2
  have q1 := h1.ext yy
  have q2 := h2.ext yy
  obtain ⟨a0, a1⟩ := box_cl ((y2.block w.heap.size (by simp)).trans (heap_alloc_new w (.cells #[.int .i32 r1, .slice A1 p1.length c1] 38)))
  by_cases hr : r1 = r2
  · subst hr
    have HB : Hid (decide ((⟨r1, p1⟩ : Cl) = ⟨r1, p2⟩) = decide (p1 = p2)) := Lib.hid (by by_cases h : p1 = p2 <;> simp [h])
    rw [HB.out]
    clear y1 y2 h1 h2
    go_enter Tryz.func140, Tryz.ntmps140
    go_wp2_with (go_at_call 141; refine Hid.out ?_)
    refine Lib.hid ?_
    refine (attrsSame_any A1 A2 p1.length p2.length c1 c2 p1 p2 _ rfl rfl q1 q2 b1 b2).mono ?_
    rintro e w' ⟨rfl, q, rfl⟩
    cases hd : decide (p1 = p2)
    all_goals
      have HD := Lib.hid hd
      clear hd
      go_wp2_with (fail)
      go_ret
      exact ⟨ret_bool HD.out.symm, below_drewN yy q⟩
  · have HB : Hid (decide ((⟨r1, p1⟩ : Cl) = ⟨r2, p2⟩) = false) := Lib.hid (decide_eq_false (fun e => hr (by injection e)))
    rw [HB.out]
    have hne : (r1 == r2) = false := beq_eq_false_iff_ne.2 hr
    clear y1 y2 h1 h2 hr
    go_enter Tryz.func140, Tryz.ntmps140
    go_wp2_with (fail)
    go_ret
    exact ⟨rfl, yy⟩

set_option maxRecDepth 100000 in
set_option maxHeartbeats 800000 in
theorem equalCl_any (A B : Option Addr) (n m c d : Nat) (l k : List ClS) (w : World) (hn : n = l.length) (hm : m = k.length) (h1 : RdCl w w.heap.size A l) (h2 : RdCl w w.heap.size B k) (hb : n ≤ 100000000) (hb2 : m ≤ 100000000)
    (hs1 : ∀ x ∈ l, x.c.s.length ≤ 140737488355328) (hs2 : ∀ x ∈ k, x.c.s.length ≤ 140737488355328) :
    Calls Tryz.prog 139 #[.slice A n c, .slice B m d, .func (.func 140) #[] #[]] w fun e w' => e = .returned (.bool (decide (clsOf l = clsOf k))) ∧ Below w.heap.size w w' := by
  have N := Lib.hid hn
  have M := Lib.hid hm
  have H1 := Lib.hid h1
  have H2 := Lib.hid h2
  have S1 := Lib.hid hs1
  have S2 := Lib.hid hs2
  generalize hR : decide (clsOf l = clsOf k) = R
  have HR := Lib.hid hR
  clear hn hR hm h1 h2 hs1 hs2
  have HL : Hid (∀ x : List ClS, (clsOf x).length = x.length) := Lib.hid (fun x => by unfold clsOf; simp)
  by_cases hnm : (n : Int) = m
  · have hnm' : n = m := by omega
    subst hnm'
    clear hnm
    go_enter Tryz.func139, Tryz.ntmps139
    go_wp2_with (fail)
    go_loopg [17] n (fun g iv wr => ∃ i : Nat, i ≤ n ∧ g = n - i ∧ iv = .int .i64 (i : Int) ∧ Below w.heap.size w wr ∧ Hid (decide (clsOf (l.drop i) = clsOf (k.drop i)) = R))
    case atStart => exact ⟨0, by omega, rfl, rfl, Below.refl _ _, Lib.hid (by rw [List.drop_zero, List.drop_zero]; exact HR.out)⟩
    case round =>
      obtain ⟨i, hi, hg, rfl, y, HI⟩ := hrel
      have HG := Lib.hid hg
      clear hg HR
      by_cases hlt : i < n
      · have hl1 : i < l.length := by have := N.out; omega
        have hl2 : i < k.length := by have := M.out; omega
        obtain ⟨ad, x, rfl, _, hd1, hx1, hc1⟩ := (H1.out.ext y).1.el hl1
        obtain ⟨ad2, x', rfl, had2, hd2, hx2, hc2⟩ := (H2.out.ext y).1.el hl2
        have hm1 := List.mem_of_getElem? hx1
        have hm2 := List.mem_of_getElem? hx2
        have p1 := Lib.hid (H1.out.2 x hm1)
        have p2 := Lib.hid (H2.out.2 x' hm2)
        have b1 := Lib.hid (S1.out x hm1)
        have b2 := Lib.hid (S2.out x' hm2)
        have HI' : Hid (decide (x.c :: clsOf (l.drop (i + 1)) = x'.c :: clsOf (k.drop (i + 1))) = R) := Lib.hid (by rw [← HI.out, hd1, hd2]; rfl)
        clear HI hd1 hd2 hx1 hx2 hm1 hm2
        obtain ⟨⟨r1, s1⟩, As1, cs1⟩ := x
        obtain ⟨⟨r2, s2⟩, As2, cs2⟩ := x'
        obtain ⟨z0, z1⟩ := cl_cells hc1
        have ya := ext_alloc wr (.cells #[.int .i32 r1, .slice As1 s1.length cs1] 38)
        obtain ⟨u0, u1⟩ := cl_cells (hc2.keep (w' := wr.alloc (.cells #[.int .i32 r1, .slice As1 s1.length cs1] 38)) fun q hq => ya.cell (by rw [hq, add_block]; exact had2))
        clear hc1 hc2 hl1 hl2 had2
        have yb := ext_alloc (wr.alloc (.cells #[.int .i32 r1, .slice As1 s1.length cs1] 38)) (.cells #[.int .i32 r2, .slice As2 s2.length cs2] 38)
        have y3 := Lib.hid (ext_trans y (ext_trans ya yb))
        clear ya yb
        go_wp2_with (go_at_call 140; refine Hid.out ?_)
        refine Lib.hid ?_
        refine (sameCl1_any r1 r2 s1 s2 As1 As2 cs1 cs2 _ (p1.out.ext y3.out) (p2.out.ext y3.out) b1.out b2.out).mono ?_
        rintro e w' ⟨rfl, y4⟩
        have yy := ext_trans y3.out y4
        have hw2 : IntKind.i64.wrap ((i:Int) + 1) = (i : Int) + 1 := IntWalk.i64_in _ (by omega)
        by_cases hxy : (⟨r1, s1⟩ : Cl) = ⟨r2, s2⟩
        · have HXY := Lib.hid hxy
          rw [decide_eq_true hxy]
          clear hxy
          go_wp2_with (fail)
          go_roundg (n - (i + 1))
          case measure => have := HG.out; omega
          case rel => exact ⟨i + 1, by omega, rfl, by go_num, yy, Lib.hid (by rw [← HI'.out]; simp only [List.cons.injEq, HXY.out, true_and])⟩
        · have HXY := Lib.hid hxy
          rw [decide_eq_false hxy]
          clear hxy
          go_wp2_with (fail)
          go_ret
          exact ⟨ret_bool (by rw [← HI'.out]; exact (decide_eq_false fun e => HXY.out (List.cons.inj e).1).symm), yy⟩
      · go_wp2_with (fail)
        go_ret
        exact ⟨ret_bool (by rw [← HI.out, List.drop_eq_nil_of_le (by have := N.out; omega), List.drop_eq_nil_of_le (by have := M.out; omega)]; rfl), y⟩
  · have hne : ((n : Int) == m) = false := beq_eq_false_iff_ne.2 hnm
    go_enter Tryz.func139, Tryz.ntmps139
    go_wp2_with (fail)
    go_ret
    refine ⟨ret_bool ?_, Below.refl _ _⟩
    rw [← HR.out]
    refine (decide_eq_false fun e => ?_).symm
    have h3 := N.out
    have h4 := M.out
    have h5 := congrArg List.length e
    rw [HL.out, HL.out] at h5
    omega
set_option maxHeartbeats 400000 in
theorem cellsSame_any (A B : Option Addr) (n m c d : Nat) (l k : List ClS) (w : World) (hn : n = l.length) (hm : m = k.length) (h1 : RdCl w w.heap.size A l) (h2 : RdCl w w.heap.size B k) (hb : n ≤ 100000000) (hb2 : m ≤ 100000000)
    (hs1 : ∀ x ∈ l, x.c.s.length ≤ 140737488355328) (hs2 : ∀ x ∈ k, x.c.s.length ≤ 140737488355328) :
    Calls Tryz.prog 61 #[.slice A n c, .slice B m d] w fun e w' => e = .returned (.bool (decide (clsOf l = clsOf k))) ∧ Below w.heap.size w w' := by
  have H := Lib.hid (equalCl_any A B n m c d l k w hn hm h1 h2 hb hb2 hs1 hs2)
  clear hn hm h1 h2 hs1 hs2
  generalize decide (clsOf l = clsOf k) = R at *
  go_enter Tryz.func61, Tryz.ntmps61
  go_wp2_with (go_at_call 139; refine Hid.out ?_)
  refine Lib.hid ?_
  refine H.out.mono ?_
  rintro e w' ⟨rfl, y⟩
  go_wp2_with (fail)
  go_ret
  exact ⟨rfl, y⟩

def cutC (d : List Cl) (i j : Int) : List Cl := if i < 0 ∨ j < i ∨ (d.length : Int) < j then [] else (d.drop i.toNat).take (j.toNat - i.toNat)
set_option maxRecDepth 100000 in
set_option maxHeartbeats 800000 in
theorem cut_any (A : Option Addr) (n c : Nat) (d : List ClS) (i j : Int) (w : World) (hn : n = d.length) (hc : n ≤ c) (h : RdCl w w.heap.size A d) (hb : n ≤ 100000000) (hs : ∀ x ∈ d, x.c.s.length ≤ 100000000) :
    Calls Tryz.prog 16 #[.slice A n c, .int .i64 i, .int .i64 j] w (NewCls (cutC (clsOf d) i j) w) := by
  have N := Lib.hid hn
  have HR := Lib.hid h
  have HS := Lib.hid hs
  clear h hs
  have none_ : ∀ v, NewCls [] v (.returned (.slice none 0 0)) v := fun v => ⟨none, 0, [], rfl, rfl, Ow.nil _ _, (fun x hx => by cases hx), Below.refl _ _⟩
  by_cases h0 : i < 0
  · rw [show cutC (clsOf d) i j = [] from if_pos (.inl h0)]
    go_enter Tryz.func16, Tryz.ntmps16
    go_wp2_with (fail)
    go_ret
    exact none_ _
  by_cases h1 : j < i
  · rw [show cutC (clsOf d) i j = [] from if_pos (.inr (.inl h1))]
    go_enter Tryz.func16, Tryz.ntmps16
    go_wp2_with (fail)
    go_ret
    exact none_ _
  by_cases h2 : (n : Int) < j
  · rw [show cutC (clsOf d) i j = [] from if_pos (.inr (.inr (by rw [clsOf_len, ← hn]; exact h2)))]
    go_enter Tryz.func16, Tryz.ntmps16
    go_wp2_with (fail)
    go_ret
    exact none_ _
  obtain ⟨a, rfl⟩ : ∃ a : Nat, i = a := ⟨i.toNat, by omega⟩
  obtain ⟨b, rfl⟩ : ∃ a : Nat, j = a := ⟨j.toNat, by omega⟩
  have hab : a ≤ b := by omega
  have hbn : b ≤ n := by omega
  obtain ⟨A8, hA8⟩ : ∃ X, advS A c a 2 = X := ⟨_, rfl⟩
  obtain ⟨n8, hn8⟩ : ∃ X, b - a = X := ⟨_, rfl⟩
  obtain ⟨c8, hc8⟩ : ∃ X, c - a = X := ⟨_, rfl⟩
  have sl1 : ∀ W, (Instr.slice 23 (.slice A n c) (some (.int .i64 (a : Int))) (some (.int .i64 (b : Int))) none).run Tryz.prog W = .ok (.slice A8 n8 c8) W := sl_both Tryz.slCl Tryz.elCl size_cl rfl rfl hA8 hn8 hc8 hab (by omega)
  have R8 : Hid (RdCl w w.heap.size A8 ((d.drop a).take n8)) := Lib.hid ((HR.out.from hA8 (by omega) (by omega)).take n8)
  have L8 : Hid (n8 = ((d.drop a).take n8).length) := Lib.hid (by rw [List.length_take, List.length_drop]; omega)
  have E8 : Hid (cutC (clsOf d) a b = clsOf ((d.drop a).take n8)) := Lib.hid (by
    unfold cutC
    rw [if_neg (by rw [clsOf_len, ← hn]; omega), clsOf_take, clsOf_drop, ← hn8]; rfl)
  have B8 : Hid (n8 ≤ 100000000) := Lib.hid (by omega)
  rw [E8.out]
  clear hA8 hn8 hc8 hn hc hb
  go_enter Tryz.func16, Tryz.ntmps16
  go_wp2_with (go_at_call 63; refine Hid.out ?_)
  refine Lib.hid ?_
  refine (copyCells_any A8 n8 c8 _ w L8.out R8.out B8.out (fun x hx => HS.out x (List.mem_of_mem_drop (List.mem_of_mem_take hx)))).mono ?_
  rintro e w1 ⟨A1, k1, L, rfl, hL, oL, pL, yL⟩
  have HN : Hid (NewCls (clsOf ((d.drop a).take n8)) w (.returned (.slice A1 L.length k1)) w1) := Lib.hid ⟨A1, k1, L, rfl, hL, oL, pL, yL⟩
  clear hL oL pL yL
  go_wp2_with (fail)
  go_ret
  exact HN.out

structure DocAt (w : World) (A : Option Addr) (n c : Nat) (L : List ClS) : Prop where
  rd : RdCl w w.heap.size A L
  len : n = L.length
  cap : n ≤ c
  caps : ∀ z ∈ L, z.c.s.length ≤ z.cs ∧ z.cs ≤ maxLen
  vr : ∀ z ∈ L, z.c.s.length ≤ 1000000 ∧ okVr z.c.s
  b : n ≤ 20000
structure OpsAt (w : World) (A : Option Addr) (n : Nat) (x : List OpS) : Prop where
  rd : RdOp w w.heap.size A x
  len : n = x.length
  ok : ∀ o ∈ x, okOp o.o
  b : n ≤ 1000000
theorem DocAt.ext {w w' : World} {A : Option Addr} {n c : Nat} {L : List ClS} (h : DocAt w A n c L) (y : Below w.heap.size w w') : DocAt w' A n c L := ⟨h.rd.ext y, h.len, h.cap, h.caps, h.vr, h.b⟩
theorem OpsAt.ext {w w' : World} {A : Option Addr} {n : Nat} {x : List OpS} (h : OpsAt w A n x) (y : Below w.heap.size w w') : OpsAt w' A n x := ⟨h.rd.ext y, h.len, h.ok, h.b⟩
theorem mem_cls {L : List ClS} {z : ClS} (h : z ∈ L) : z.c ∈ clsOf L := by unfold clsOf; exact List.mem_map_of_mem h
theorem cls_mem {L : List ClS} {c : Cl} (h : c ∈ clsOf L) : ∃ z ∈ L, z.c = c := by
  obtain ⟨z, hz, e⟩ := List.mem_map.1 h
  exact ⟨z, hz, e⟩
theorem DocAt.cvr {w : World} {A : Option Addr} {n c : Nat} {L : List ClS} (h : DocAt w A n c L) : ∀ x ∈ clsOf L, okVr x.s := fun x hx => by
  obtain ⟨z, hz, rfl⟩ := cls_mem hx
  exact (h.vr z hz).2
theorem DocAt.clen {w : World} {A : Option Addr} {n c : Nat} {L : List ClS} (h : DocAt w A n c L) : (clsOf L).length = n := by rw [clsOf_len, ← h.len]
theorem DocAt.made {w : World} {B B2 : Nat} {A : Option Addr} {c : Nat} {v : Value} {L : List ClS} (ho : OwCs w B (.slice A L.length c) L) (hp : ∀ z ∈ L, PartC w B2 v z) (hv : ∀ x ∈ clsOf L, x.s.length ≤ 1000000 ∧ okVr x.s) (hb : L.length ≤ 20000) : DocAt w A L.length c L := by
  obtain ⟨h1, h2, h3⟩ := rd_cells ho hp
  exact ⟨h1, rfl, h3, h2, fun z hz => hv _ (mem_cls hz), hb⟩
def NewDoc (o : List Cl) (w : World) (e : Ending) (w' : World) : Prop :=
  ∃ A c L, e = .returned (.slice A L.length c) ∧ clsOf L = o ∧ DocAt w' A L.length c L ∧ Below w.heap.size w w'
theorem NewCls.doc {o : List Cl} {w w' : World} {e : Ending} (h : NewCls o w e w') (hv : ∀ x ∈ o, x.s.length ≤ 1000000 ∧ okVr x.s) (hb : o.length ≤ 20000) : NewDoc o w e w' := by
  obtain ⟨A, c, L, he, hL, ho, hp, y⟩ := h
  exact ⟨A, c, L, he, hL, DocAt.made ho hp (by rw [hL]; exact hv) (by rw [← clsOf_len, hL]; exact hb), y⟩
section
variable {w : World} {A B : Option Addr} {n c n2 c2 : Nat} {L M : List ClS}
theorem sameD (h1 : DocAt w A n c L) (h2 : DocAt w B n2 c2 M) {b : Bool} (hb : decide (clsOf L = clsOf M) = b) : Calls Tryz.prog 61 #[.slice A n c, .slice B n2 c2] w fun e w' => e = .returned (.bool b) ∧ Below w.heap.size w w' := by
  have h := cellsSame_any A B n n2 c c2 L M w h1.len h2.len h1.rd h2.rd (by have := h1.b; omega) (by have := h2.b; omega) (fun x hx => by have := (h1.vr x hx).1; omega) (fun x hx => by have := (h2.vr x hx).1; omega)
  rw [hb] at h
  exact h
theorem mayDoc {s : Nat} {l : List Ky} (h : DocAt w A n c L) (hS : Sch w s l) (hT : Lib.Utf8Tabs 1 2 w) {r : Int} (hr : mayD l (clsOf L) = r) : Calls Tryz.prog 56 #[.pointer (some ⟨s, 0, none⟩), .slice A n c] w fun e w' => e = .returned (.int .i64 r) ∧ Below w.heap.size w w' := by
  have h1 := mayCells_any s l A n c L w h.len h.rd (by have := h.b; omega) hS (fun x hx => ⟨by have := (h.vr x hx).1; omega, (h.vr x hx).2⟩) hT
  rw [hr] at h1
  exact h1
theorem applyDocI {s : Nat} {l : List Ky} {most : Int} {N : Nat} {x : List OpS} (h : DocAt w A n c L) (hx : OpsAt w B n2 x) (hS : Sch w s l) (hT : Lib.Utf8Tabs 1 2 w) (hl : l.length ≤ 64) (hmo : N ≤ 10000)
    {us : List Un} (hz : applyN l x (clsOf L) most = 0) (hN : applyN l x (clsOf L) (N : Int) = 0) (hu : app l (units (osOf x)) (clsOf L) = app l us (clsOf L)) :
    Calls Tryz.prog 33 #[.pointer (some ⟨s, 0, none⟩), .slice A n c, .slice B n2 c2, .int .i64 most] w (fun e w' => ∃ A c M, e = .returned (.tuple #[.slice A M.length c, .int .i64 0]) ∧ clsOf M = app l us (clsOf L) ∧ mayD l (clsOf M) = 0 ∧ M.length ≤ N ∧ DocAt w' A M.length c M ∧ Below w.heap.size w w') := by
  refine (applyD_any s l A B n c n2 c2 L x most w h.len hx.len h.cap (by have := h.b; omega) (by have := hx.b; omega) h.rd hx.rd hS (fun z hz => ⟨by have := (h.vr z hz).1; omega, (h.vr z hz).2⟩) h.caps hx.ok hT).mono ?_
  rintro e w' ⟨y, ⟨hne, _⟩ | ⟨_, A', c', M, rfl, hM, oM, pM⟩⟩
  · exact absurd hz hne
  · obtain ⟨hg, hf, cm⟩ := came hl (by have := hx.b; have := hx.len; omega) (by omega) hx.ok h.cvr hN
    rw [← hM] at cm
    have hlen : M.length ≤ N := by
      have h1 := cm.len
      have h2 := hf.m
      rw [clsOf_len] at h1
      omega
    exact ⟨A', c', M, rfl, hM.trans hu, cm.may, hlen, DocAt.made oM pM (fun z hz => ⟨by have := cm.s64 z hz; omega, cm.vr z hz⟩) (by omega), y⟩
theorem applyDoc {s : Nat} {l : List Ky} {most : Nat} {x : List OpS} (h : DocAt w A n c L) (hx : OpsAt w B n2 x) (hS : Sch w s l) (hT : Lib.Utf8Tabs 1 2 w) (hl : l.length ≤ 64) (hmo : most ≤ 10000)
    {us : List Un} (hz : applyN l x (clsOf L) (most : Int) = 0) (hu : app l (units (osOf x)) (clsOf L) = app l us (clsOf L)) :
    Calls Tryz.prog 33 #[.pointer (some ⟨s, 0, none⟩), .slice A n c, .slice B n2 c2, .int .i64 (most : Int)] w (fun e w' => ∃ A c M, e = .returned (.tuple #[.slice A M.length c, .int .i64 0]) ∧ clsOf M = app l us (clsOf L) ∧ mayD l (clsOf M) = 0 ∧ M.length ≤ most ∧ DocAt w' A M.length c M ∧ Below w.heap.size w w') :=
  applyDocI h hx hS hT hl hmo hz hz hu
theorem cutC_mem {d : List Cl} {i j : Int} {x : Cl} (h : x ∈ cutC d i j) : x ∈ d := by
  unfold cutC at h
  split at h
  · cases h
  · exact List.mem_of_mem_drop (List.mem_of_mem_take h)
theorem cutC_len (d : List Cl) (i j : Int) : (cutC d i j).length ≤ d.length := by
  unfold cutC
  split
  · exact Nat.zero_le _
  · rw [List.length_take, List.length_drop]; omega
theorem cutDoc (h : DocAt w A n c L) (i j : Int) : Calls Tryz.prog 16 #[.slice A n c, .int .i64 i, .int .i64 j] w (NewDoc (cutC (clsOf L) i j) w) := by
  refine (cut_any A n c L i j w h.len h.cap h.rd (by have := h.b; omega) (fun x hx => by have := (h.vr x hx).1; omega)).mono fun e w' hN => hN.doc (fun x hx => ?_) ?_
  · obtain ⟨z, hz, rfl⟩ := cls_mem (cutC_mem hx)
    exact h.vr z hz
  · have := cutC_len (clsOf L) i j
    have := h.clen
    have := h.b
    omega
theorem copyDoc (h : DocAt w A n c L) : Calls Tryz.prog 63 #[.slice A n c] w (fun e w' => ∃ A' c' M, e = .returned (.slice A' M.length c') ∧ clsOf M = clsOf L ∧ OwCs w' w.heap.size (.slice A' M.length c') M ∧ (∀ z ∈ M, PartC w' w.heap.size (.slice A' M.length c') z) ∧ Below w.heap.size w w') :=
  copyCells_any A n c L w h.len h.rd (by have := h.b; omega) (fun x hx => by have := (h.vr x hx).1; omega)
end
set_option linter.unusedVariables false
set_option linter.unusedSimpArgs false

def mkU (us : List Un) : List Opd := enc (nf us)
theorem isOp_one (u : Un) : isOp (op1 u) := by
  cases u with
  | ins r s => exact .inl ⟨rfl, rfl, by simp [op1, opI], rfl⟩
  | del => exact .inr (.inl ⟨rfl, by show (1 : Int) ≤ 1; decide, rfl, rfl, rfl⟩)
  | ret p => exact .inr (.inr ⟨rfl, by show (1 : Int) ≤ 1; decide, rfl, rfl⟩)
theorem unitsO_one (u : Un) : unitsO (op1 u) = [u] := by cases u <;> rfl
theorem into_ok {u : Un} {b : Opd} (hb : isOp b) (h : canMerge (op1 u) b = true) : isOp (into u b) ∧ unitsO (into u b) = u :: unitsO b ∧ ∀ c, canMerge (into u b) c = canMerge b c := by
  obtain ⟨k, n, r, s, p⟩ := b
  rcases isOp_kind hb with hk | hk | hk
  · obtain ⟨e, hr⟩ := opI_of hb hk
    simp only at hk hr e
    subst hk
    rw [e] at h ⊢
    cases u with
    | del => simp [canMerge, op1, opI, opD] at h
    | ret q => simp [canMerge, op1, opI, opR] at h
    | ins r2 s2 =>
      have hs : s2 = s := by simp [canMerge, op1, opI] at h; exact of_decide_eq_true h
      subst hs
      exact ⟨.inl ⟨rfl, rfl, by simp [into, opI], rfl⟩, rfl, fun c => rfl⟩
  · obtain ⟨e, hn⟩ := opD_of hb hk
    simp only at hk hn e
    subst hk
    rw [e] at h ⊢
    cases u with
    | ins r2 s2 => simp [canMerge, op1, opI, opD] at h
    | ret q => simp [canMerge, op1, opD, opR] at h
    | del =>
      refine ⟨.inr (.inl ⟨rfl, by show 1 ≤ n + 1; omega, rfl, rfl, rfl⟩), ?_, fun c => rfl⟩
      show List.replicate (n + 1).toNat Un.del = .del :: List.replicate n.toNat .del
      rw [show (n + 1).toNat = n.toNat + 1 by omega, List.replicate_succ]
  · obtain ⟨e, hn⟩ := opR_of hb hk
    simp only at hk hn e
    subst hk
    rw [e] at h ⊢
    cases u with
    | ins r2 s2 => simp [canMerge, op1, opI, opR] at h
    | del => simp [canMerge, op1, opD, opR] at h
    | ret q =>
      have hq : q = p := by simp [canMerge, op1, opR] at h; exact of_decide_eq_true h
      subst hq
      refine ⟨.inr (.inr ⟨rfl, by show 1 ≤ n + 1; omega, rfl, rfl⟩), ?_, fun c => rfl⟩
      show List.replicate (n + 1).toNat (Un.ret q) = .ret q :: List.replicate n.toNat (.ret q)
      rw [show (n + 1).toNat = n.toNat + 1 by omega, List.replicate_succ]
theorem cons1_ok (u : Un) {x : List Opd} (h : tight x) : tight (cons1 u x) ∧ units (cons1 u x) = u :: units x := by
  cases x with
  | nil => exact ⟨⟨isOp_one u, trivial, trivial⟩, by show units [op1 u] = _; rw [units_one, unitsO_one]; rfl⟩
  | cons b t =>
    obtain ⟨h1, h2, h3⟩ := h
    have ec : cons1 u (b :: t) = if canMerge (op1 u) b = true then into u b :: t else op1 u :: b :: t := rfl
    rw [ec]
    by_cases hm : canMerge (op1 u) b = true
    · rw [if_pos hm]
      obtain ⟨g1, g2, g3⟩ := into_ok h1 hm
      refine ⟨⟨g1, ?_, h3⟩, by rw [units_cons, g2, units_cons]; rfl⟩
      cases t with
      | nil => trivial
      | cons c t => show canMerge (into u b) c = false; rw [g3]; exact h2
    · rw [if_neg hm]
      exact ⟨⟨isOp_one u, by simpa using hm, h1, h2, h3⟩, by rw [units_cons, unitsO_one]; rfl⟩
theorem enc_ok : ∀ us : List Un, tight (enc us) ∧ units (enc us) = us
  | [] => ⟨trivial, rfl⟩
  | u :: us => by
    obtain ⟨h1, h2⟩ := enc_ok us
    obtain ⟨g1, g2⟩ := cons1_ok u h1
    exact ⟨g1, by show units (cons1 u (enc us)) = _; rw [g2, h2]⟩
theorem mkU_ok (us : List Un) : tight (mkU us) ∧ units (mkU us) = nf us := enc_ok (nf us)
theorem told_mkU {m : Mk} {us : List Un} (h : Told m us) : mkOps m = mkU us := tight_ext h.ops.1 (mkU_ok us).1 (by rw [h.ops.2, (mkU_ok us).2])
theorem mkU_isOp {x : List OpS} {us : List Un} (hx : osOf x = mkU us) : ∀ o ∈ x, isOp o.o := fun o ho => tight_isOp (by rw [hx]; exact (mkU_ok us).1 : tight (osOf x)) o.o (by unfold osOf; exact List.mem_map_of_mem ho)
theorem mkU_units {x : List OpS} {us : List Un} (hx : osOf x = mkU us) : units (osOf x) = nf us := by rw [hx]; exact (mkU_ok us).2
theorem made_applyU {l : List Ky} {x : List OpS} {us : List Un} {d : List Cl} {most : Nat} (hx : osOf x = mkU us) (hb : x.length ≤ 1048576) (hmo : most ≤ 4294967296) (hd : mayD l d = 0) (hf : FitU l us d.length most) :
    applyN l x d (most : Int) = 0 ∧ app l (units (osOf x)) d = app l us d := by
  have h2 := mkU_units hx
  refine ⟨zero_applyN hd (units_fits hb hmo (mkU_isOp hx) (by rw [h2]; exact fit_nf hf)), ?_⟩
  rw [h2, app_nf]
open Go.RowKit

def capO (o : OpS) : Prop := (o.o.r.length ≤ o.cr ∧ o.cr ≤ maxLen) ∧ (o.o.s.length ≤ o.cs ∧ o.cs ≤ maxLen) ∧ (o.o.p.length ≤ o.cp ∧ o.cp ≤ maxLen)
theorem cap_own {α : Type} {enc : α → List Value} {size : Nat} {e : TypeId} {w : World} {B : Nat} {A : Option Addr} {n c : Nat} {l : List α} (h : Ow enc size e w B (.slice A n c) l) : l.length ≤ c ∧ c ≤ maxLen := by
  obtain ⟨A', c', hv, h1, h2⟩ := h.form
  injection hv with _ _ hcc
  subst hcc
  exact ⟨h1, h2⟩
theorem cap_part {w : World} {B g : Nat} {x : OpS} (h : PartN w B g x) : capO x := ⟨cap_own h.1.1, cap_own h.2.1.1, cap_own h.2.2.1⟩
structure OpsC (w : World) (A : Option Addr) (n c : Nat) (x : List OpS) : Prop where
  at_ : OpsAt w A n x
  cap : n ≤ c
  cm : c ≤ maxLen
  caps : ∀ o ∈ x, capO o
theorem OpsC.ext {w w' : World} {A : Option Addr} {n c : Nat} {x : List OpS} (h : OpsC w A n c x) (y : Below w.heap.size w w') : OpsC w' A n c x := ⟨h.at_.ext y, h.cap, h.cm, h.caps⟩
def NewOpC (o : List Opd) (w : World) (e : Ending) (w' : World) : Prop :=
  ∃ A c x, e = .returned (.slice A x.length c) ∧ osOf x = o ∧ OpsC w' A x.length c x ∧ Below w.heap.size w w'
theorem NewOps.opC {m : Mk} {us : List Un} {K S : Nat} {w w' : World} {e : Ending} (h : NewOps (mkOps m) w e w') (ht : Told m us) (hu : ∀ u ∈ us, okUn u) (hB : MkB m K S) (hK : K ≤ 900000) (hS : S ≤ 100000000) : NewOpC (mkU us) w e w' := by
  obtain ⟨A, c, x, he, hx, ho, hp, y⟩ := h
  obtain ⟨h1, h2⟩ := ok_made hx ht hu hB (by omega) hS
  obtain ⟨c1, c2⟩ := cap_own ho
  exact ⟨A, c, x, he, hx.trans (told_mkU ht), ⟨⟨rd_made ho hp, rfl, h1, by omega⟩, c1, c2, fun z hz => by obtain ⟨g, hg⟩ := hp z hz; exact cap_part hg⟩, y⟩

def goneU (i n : Nat) : List Un := List.replicate i (.ret []) ++ List.replicate n .del

set_option maxRecDepth 100000 in
set_option maxHeartbeats 1600000 in
theorem remove_any (i k : Nat) (i0 j0 : Int) (hi : i0 = (i : Int)) (hj : j0 = (i : Int) + (k : Int)) (hb : i + k ≤ 1000000000000) (w : World) :
    Calls Tryz.prog 125 #[.int .i64 i0, .int .i64 j0] w (NewOpC (mkU (goneU i k)) w) := by
  subst hi hj
  have hF : ∀ k, k = w.heap.size → w.heap.size ≤ k := fun k hk => by omega
  have hsub : IntKind.i64.wrap ((i : Int) + (k : Int) - (i : Int)) = (k : Int) := by rw [IntWalk.i64_in _ (by omega)]; omega
  have hsub' : wrap64 ((i : Int) + (k : Int) - (i : Int)) = (k : Int) := by rw [w64_in _ (by omega)]; omega
  obtain ⟨m1, hm1⟩ : ∃ m, mkRetain Mk.new (i : Int) [] = m := ⟨_, rfl⟩
  obtain ⟨m2, hm2⟩ : ∃ m, mkDelete m1 (k : Int) = m := ⟨_, rfl⟩
  have T1 : Told m1 (List.replicate i (.ret [])) := by
    have := Told.new.retain (i : Int) [] (by simp; omega)
    rw [hm1, Int.toNat_natCast, List.nil_append] at this; exact this
  have TD : Hid (Told m2 (goneU i k)) := Lib.hid (by
    have := T1.delete (k : Int) (by rw [List.length_replicate]; omega) (by rw [List.length_replicate]; omega)
    rw [hm2, Int.toNat_natCast] at this; exact this)
  have B1 : MkB m1 2 64 := by
    have := (MkB.new 64).retain (i : Int) (p := []) (by simp)
    rw [hm1] at this; exact this
  have B2 : Hid (MkB m2 2 64) := Lib.hid (by have := B1.delete (k : Int); rw [hm2] at this; exact this)
  have HM1 := Lib.hid hm1
  have HM2 := Lib.hid hm2
  clear hm1 hm2 T1 B1 hb
  go_enter Tryz.func125, Tryz.ntmps125
  go_wp2_with (go_at_call 74; refine Hid.out ?_)
  refine Lib.hid ?_
  refine (mkNew_any w).mono ?_
  rintro e w1 ⟨rfl, hm, y1⟩
  have HM := Lib.hid hm
  have Y1 := Lib.hid y1
  clear hm y1
  go_wp2_with (go_at_call 75; refine Hid.out ?_)
  refine Lib.hid ?_
  refine (mkRetain_any w.heap.size none (i : Int) 0 0 [] w1 (fun k => k = w.heap.size) Mk.new HM.out rfl Rd.nil (fun ad e => by cases e) (by simp) (by simp [Mk.new]) (fun o ho => by simp [Mk.new, mkGap] at ho)).mono ?_
  rw [HM1.out]
  rintro e w2 ⟨rfl, F2, hm2, g2⟩
  have y2 := Lib.hid (Y1.out.trans (g2.below (B := w.heap.size) hF Y1.out.size))
  have low2 := Lib.hid (g2.low (B := w.heap.size) hF Y1.out.size)
  have HMA := Lib.hid hm2
  clear hm2 g2
  go_wp2_with (go_at_call 82; refine Hid.out ?_)
  refine Lib.hid ?_
  refine (mkDelete_any w.heap.size (k : Int) w2 F2 m1 HMA.out).mono ?_
  rw [HM2.out]
  rintro e w3 ⟨rfl, F3, hm3, g3⟩
  have y3 := Lib.hid (y2.out.trans (g3.below (B := w.heap.size) low2.out y2.out.size))
  have HMB := Lib.hid hm3
  clear hm3 g3
  go_wp2_with (go_at_call 77; refine Hid.out ?_)
  refine Lib.hid ?_
  refine (mkOps_any w.heap.size w3 F3 m2 HMB.out (by have := B2.out.len; omega) (fun o ho => by have := B2.out.gap.2 o ho; omega)).mono ?_
  intro e w4 hN
  have hN2 := NewOps.opC (hN.late y3.out) TD.out (fun u hu => by
    unfold goneU at hu
    rcases List.mem_append.1 hu with hu | hu
    · rw [(List.mem_replicate.1 hu).2]; intro c hc; cases hc
    · rw [(List.mem_replicate.1 hu).2]; trivial) B2.out (by omega) (by omega)
  obtain ⟨A, c, x, rfl, hx, ox, yx⟩ := hN2
  have HN : Hid (NewOpC (mkU (goneU i k)) w (.returned (.slice A x.length c)) w4) := Lib.hid ⟨A, c, x, rfl, hx, ox, yx⟩
  clear hN hx ox yx
  go_wp2_with (fail)
  go_ret
  exact HN.out

def fromL (l : List Nat) : Nat := match l.getLast? with
  | none => 0
  | some q => q + 1
def linesM (P : Nat → List Ch) : Mk → Nat → Nat → List Nat → Mk
  | m, _, _, [] => m
  | m, k, f, p :: t => linesM P (mkRetain (mkRetain m ((p : Int) - (f : Int)) []) 1 (P k)) (k + 1) (p + 1) t
def linesU (P : Nat → List Ch) : Nat → Nat → List Nat → List Un
  | _, _, [] => []
  | k, f, p :: t => List.replicate (p - f) (.ret []) ++ (.ret (P k) :: linesU P (k + 1) (p + 1) t)
theorem lines_told (P : Nat → List Ch) : ∀ (l : List Nat) (m : Mk) (k f : Nat) (us : List Un), Told m us → (us.length : Int) + (l.map (fun p : Nat => (p : Int) + 1)).sum ≤ 4611686018427387904 → Told (linesM P m k f l) (us ++ linesU P k f l)
  | [], m, k, f, us, h, _ => by rw [linesM, linesU, List.append_nil]; exact h
  | p :: t, m, k, f, us, h, hb => by
    rw [List.map_cons, List.sum_cons] at hb
    have hs : (0 : Int) ≤ (t.map (fun p : Nat => (p : Int) + 1)).sum := by
      clear hb
      induction t with
      | nil => exact Int.le_refl _
      | cons a t ih => rw [List.map_cons, List.sum_cons]; omega
    have h1 := h.retain ((p : Int) - (f : Int)) [] (by omega)
    have e1 : ((p : Int) - (f : Int)).toNat = p - f := by omega
    rw [e1] at h1
    have hl : (us ++ List.replicate (p - f) (.ret [] : Un)).length = us.length + (p - f) := by simp
    have h2 := h1.retain 1 (P k) (by rw [hl]; omega)
    have h3 := lines_told P t _ (k + 1) (p + 1) _ h2 (by
      have : ((us ++ List.replicate (p - f) (.ret [] : Un)) ++ List.replicate (1 : Int).toNat (.ret (P k) : Un)).length = us.length + (p - f) + 1 := by simp; omega
      rw [this]; omega)
    rw [linesM, linesU]
    have e : us ++ (List.replicate (p - f) (.ret []) ++ (.ret (P k) :: linesU P (k + 1) (p + 1) t)) = (us ++ List.replicate (p - f) (.ret []) ++ List.replicate (1 : Int).toNat (.ret (P k))) ++ linesU P (k + 1) (p + 1) t := by
      show _ = (us ++ List.replicate (p - f) (.ret []) ++ [.ret (P k)]) ++ _
      simp
    rw [e]; exact h3
theorem lines_bnd (P : Nat → List Ch) {S : Nat} (hP : ∀ k, (P k).length ≤ S) : ∀ (l : List Nat) (m : Mk) (k f K : Nat), MkB m K S → MkB (linesM P m k f l) (K + 4 * l.length) S
  | [], m, k, f, K, h => h
  | p :: t, m, k, f, K, h => by
    have h1 := (h.retain ((p : Int) - (f : Int)) (p := []) (Nat.zero_le _)).retain 1 (hP k)
    have h2 := lines_bnd P hP t _ (k + 1) (p + 1) _ h1
    rw [linesM]
    exact h2.mono (by simp; omega) (Nat.le_refl _)
theorem lines_snoc (P : Nat → List Ch) : ∀ (l : List Nat) (m : Mk) (k f p : Nat), linesM P m k f (l ++ [p]) = mkRetain (mkRetain (linesM P m k f l) ((p : Int) - ((match l.getLast? with | none => f | some q => q + 1 : Nat) : Int)) []) 1 (P (k + l.length))
  | [], m, k, f, p => rfl
  | q :: t, m, k, f, p => by
    have ih := lines_snoc P t (mkRetain (mkRetain m ((q : Int) - (f : Int)) []) 1 (P k)) (k + 1) (q + 1) p
    rw [List.cons_append, linesM, ih, linesM]
    have e1 : k + 1 + t.length = k + (q :: t).length := by simp; omega
    rw [e1]
    congr 2
    cases t with
    | nil => rfl
    | cons a t =>
      have : (q :: a :: t).getLast? = (a :: t).getLast? := by simp [List.getLast?_cons_cons]
      rw [this]
      cases h : (a :: t).getLast? with
      | none => simp at h
      | some z => rfl

def encInt (a : Int) : List Value := [.int .i64 a]
theorem encInt_len (a : Int) : (encInt a).length = 1 := rfl
theorem encInt_one (a : Int) : ∀ u ∈ encInt a, u.oneCell' = true := by intro u hu; simp [encInt] at hu; rw [hu]; rfl
theorem Tryz.infoInt : (Tryz.prog.info? 3).map (fun i => (i.zero, i.size, i.bytes)) = some (some (.int .i64 0), 1, 8) := by kernel_rfl
theorem Tryz.slInt : Tryz.prog.underlying 89 = some (.slice 3) := by kernel_rfl
abbrev OwInt := @Ow Int encInt 1 3
abbrev RdInt := @Rd Int encInt 1
section
variable {ops : Array Oper} {rest : List Oper} {o : Oper} {a : Act} {Q : Exit → Act → World → Prop} {w : World} {base : Nat} {v : Value}
theorem app_int {l m : List Int} (hgd : o.guard = none) (s x : Operand)
    (ho : o.op = .call { callee := .builtin .append, args := #[s, x], argTypes := #[89, 89] })
    (hsv : a.eval s = v) (hown : OwInt w base v l) (B : Nat) (A : Option Addr) (c n : Nat) (hx : a.eval x = .slice A n c) (hn : n = m.length) (hr : RdInt w B A m)
    (hb : l.length + m.length ≤ 2000000000000) (hbase : base ≤ w.heap.size)
    (h : ∀ v' w', OwInt w' base v' (l ++ m) → w.grownBy w' (wb v) → (v' = v ∧ w' = w ∨ wb v' = wb v ∨ wb v' = some w.heap.size) → wpList Tryz.prog ops Q rest (a.put o.dst v') w') : wpList Tryz.prog ops Q (o :: rest) a w := by
  obtain ⟨i0, hi0, hz0, hz1, hz2⟩ := info_parts Tryz.infoInt
  exact wpList_app hgd s x _ ho i0 _ 8 Tryz.slInt hi0 hz0 hz1 hz2 rfl (by omega) encInt_len encInt_one hsv hown B A c n hx hn hr (by simp only [maxLen]; omega) (by omega) hbase h
end

def othersL (ls : List Ky) (g id : Int) : List Int := (ls.filter (fun o => decide (o.group = g) && !decide (o.id = id))).map (·.id)
def groupL (l : List Ky) (id : Int) : List Int :=
  match findK l id with
  | none => []
  | some k => if k.group = 0 then [] else othersL l k.group id
theorem others_perm {a b : List Ky} (h : a.Perm b) (g id : Int) : (othersL a g id).Perm (othersL b g id) := (h.filter _).map _
theorem others_drop {ls : List Ky} {m : Nat} {x : Ky} {g id : Int} {r R : List Int} (hd : ls.drop m = x :: ls.drop (m + 1)) (h : r ++ othersL (ls.drop m) g id = R) :
    (x.group = g ∧ ¬ x.id = id ∧ (r ++ [x.id]) ++ othersL (ls.drop (m + 1)) g id = R) ∨ ((¬ x.group = g ∨ x.id = id) ∧ r ++ othersL (ls.drop (m + 1)) g id = R) := by
  rw [hd] at h
  unfold othersL at h ⊢
  rw [List.filter_cons] at h
  by_cases h1 : x.group = g
  · by_cases h2 : x.id = id
    · rw [if_neg (by simp [h2])] at h; exact .inr ⟨.inr h2, h⟩
    · rw [if_pos (by simp [h1, h2])] at h
      exact .inl ⟨h1, h2, by rw [← h]; simp⟩
  · rw [if_neg (by simp [h1])] at h; exact .inr ⟨.inl h1, h⟩
def GroupOut (l : List Ky) (id : Int) (w : World) (e : Ending) (w' : World) : Prop :=
  ∃ (g : List Int) (A : Option Addr) (c : Nat), e = .returned (.slice A g.length c) ∧ g.Perm (groupL l id) ∧ g.length ≤ l.length ∧ OwInt w' w.heap.size (.slice A g.length c) g ∧ Below w.heap.size w w'

set_option maxRecDepth 100000 in
set_option maxHeartbeats 1600000 in
theorem groupS_any (s : Nat) (l : List Ky) (id : Int) (w : World) (h : Sch w s l) (hl : l.length ≤ 1000000) :
    Calls Tryz.prog 189 #[.pointer (some ⟨s, 0, none⟩), .int .i64 id] w (GroupOut l id w) := by
  obtain ⟨bm, A, n, c, ls, hb, hm, hn, hp, hs, hr⟩ := (show Sch w s l from h)
  have N := Lib.hid hn
  have PM := Lib.hid hp
  have hlen := hp.length_eq
  have HH := Lib.hid h
  have hn2 : n ≤ 1000000 := by omega
  have HB0 := Lib.hid hb
  have HLE := Lib.hid hlen
  clear hn hp hm h hb hlen
  go_enter Tryz.func189, Tryz.ntmps189
  go_wp2_with (go_at_call 62; refine Hid.out ?_)
  refine Lib.hid ?_
  refine (findS_any s l id w HH.out).mono ?_
  rintro e w1 ⟨i, k1, kd, k2, k3, q, ok, rfl, hk, hbk, y1⟩
  have y2 := ext_alloc w1 (.cells #[.int .i64 i, .bool k1, .int .u8 kd, .bool k2, .bool k3, .int .i64 q] 97)
  have hbx := heap_alloc_new w1 (.cells #[.int .i64 i, .bool k1, .int .u8 kd, .bool k2, .bool k3, .int .i64 q] 97)
  have y := ext_trans y1 y2
  have HK := Lib.hid hk
  have HB := Lib.hid hbk
  have HBX := Lib.hid hbx
  clear hk hbk hbx
  cases ok with
  | false =>
    have HG : Hid (groupL l id = []) := Lib.hid (by
      have h1 := HB.out
      unfold groupL
      cases hq : findK l id with
      | none => rfl
      | some k => rw [hq] at h1; cases h1)
    go_wp2_with (fail)
    go_ret
    exact ⟨[], none, 0, rfl, by rw [HG.out], by simp, Ow.nil _ _, y⟩
  | true =>
    have HG : Hid (groupL l id = if q = 0 then [] else othersL l q id) := Lib.hid (by
      have h1 := HB.out
      have h2 := HK.out
      unfold groupL
      cases hq : findK l id with
      | none => rw [hq] at h1; cases h1
      | some k => rw [hq] at h2; simp only [Option.getD_some] at h2; subst h2; rfl)
    obtain ⟨b0, b1, b2, b3, b4, b5⟩ := box_ky HBX.out
    by_cases hq : q = 0
    · subst hq
      go_wp2_with (fail)
      go_ret
      exact ⟨[], none, 0, rfl, by rw [HG.out]; simp, by simp, Ow.nil _ _, y⟩
    have hq0 : (q == 0) = false := beq_eq_false_iff_ne.2 hq
    have HGL : Hid (groupL l id = othersL l q id) := Lib.hid (by rw [HG.out, if_neg hq])
    obtain ⟨R, hR⟩ : ∃ X, othersL ls q id = X := ⟨_, rfl⟩
    have RR := Lib.hid hR
    have hbs := (y.block s (lt_of_some HB0.out)).trans HB0.out
    obtain ⟨s0, s1⟩ := box_2 hbs
    have hr1 := hr.ext y
    clear hq hR hbs
    go_wp2_with (fail)
    obtain ⟨w2, hw2⟩ : ∃ w2, w1.alloc (.cells #[.int .i64 i, .bool k1, .int .u8 kd, .bool k2, .bool k3, .int .i64 q] 97) = w2 := ⟨_, rfl⟩
    have hbx2 : w2.heap[w1.heap.size]? = some (.cells #[.int .i64 i, .bool k1, .int .u8 kd, .bool k2, .bool k3, .int .i64 q] 97 (0, 0)) := by rw [← hw2]; exact HBX.out
    have hsz2 : w2.heap.size = w1.heap.size + 1 := by rw [← hw2]; simp
    rw [hw2] at y hr1 s0 s1
    have HBX2 := Lib.hid hbx2
    have HSZ2 := Lib.hid hsz2
    clear hbx2 hsz2 b0 b1 b2 b3 b4 b5 y2 HBX
    go_loopg [7, 28] n (fun g ov iv wr => ∃ (m : Nat) (r : List Int), m ≤ n ∧ g = n - m ∧ iv = .int .i64 (m : Int) ∧ OwInt wr w2.heap.size ov r ∧ r.length ≤ m ∧ Below w2.heap.size w2 wr ∧ Hid (r ++ othersL (ls.drop m) q id = R))
    case atStart => exact ⟨0, [], by omega, rfl, rfl, Ow.nil _ _, by simp, by rw [hw2]; exact Below.refl _ _, Lib.hid (by simpa using RR.out)⟩
    case round =>
      obtain ⟨m, r, hm, hg, rfl, hown, hrl, yr, HI⟩ := hrel
      have HGG := Lib.hid hg
      clear hg
      have hbx3 := (yr.block _ (lt_of_some HBX2.out)).trans HBX2.out
      obtain ⟨b0, b1, b2, b3, b4, b5⟩ := box_ky hbx3
      by_cases hlt : m < n
      · obtain ⟨ad, x, rfl, had, hd1, _, hc0⟩ := (hr1.below yr (Nat.le_refl _)).el (i := m) (by have := N.out; omega)
        have hst := others_drop hd1 HI.out
        obtain ⟨x1, x2, x3, x4, x5, x6⟩ := x
        obtain ⟨r0, r1, r2, r3, r4, r5⟩ := ky_cells hc0
        simp only at hst
        clear hc0 hd1 HI
        have y3 := ext_alloc wr (.cells #[.int .i64 x1, .bool x2, .int .u8 x3, .bool x4, .bool x5, .int .i64 x6] 97)
        have hbx4 := heap_alloc_new wr (.cells #[.int .i64 x1, .bool x2, .int .u8 x3, .bool x4, .bool x5, .int .i64 x6] 97)
        have hbx5 := (y3.block _ (lt_of_some hbx3)).trans hbx3
        obtain ⟨d0, d1, d2, d3, d4, d5⟩ := box_ky hbx5
        obtain ⟨f0, f1, f2, f3, f4, f5⟩ := box_ky hbx4
        clear hbx3 hbx4 hbx5
        have yw := ext_trans yr y3
        have hw3 : IntKind.i64.wrap ((m:Int) + 1) = (m : Int) + 1 := IntWalk.i64_in _ (by omega)
        have HOW := Lib.hid (hown.below y3 (Nat.le_refl _))
        clear hown
        rcases hst with ⟨h1, h2, h3⟩ | ⟨h1, h3⟩
        · subst h1
          have hne : (x1 == id) = false := beq_eq_false_iff_ne.2 h2
          have H3 := Lib.hid h3
          clear h2 h3
          go_wp2_with (at_builtin; refine app_int (m := [x1]) rfl (.tmp 43) (.tmp 46) rfl rfl (by exact HOW.out.alloc _) _ _ 1 1 rfl rfl (by exact rd_one_at (enc := encInt) (size := 1) (wr.alloc _) _ x1 rfl (by simp)) (by simp only [List.length_singleton]; omega) (by have := yw.size; simp at this ⊢; omega) ?_; intro v' w' hown' hgr hv')
          have s1 := below_app (yw.alloc yw.size _) (by have := yw.size; simp at this ⊢; omega) (HOW.out.alloc _) (Nat.le_refl _) hgr
          go_roundg (n - (m + 1))
          case measure => have := HGG.out; omega
          case rel => exact ⟨m + 1, r ++ [x1], by omega, rfl, by go_num, hown', by simp; omega, s1, H3⟩
        · have H3 := Lib.hid h3
          clear h3
          by_cases h2 : x6 = q
          · have h4 : x1 = id := by rcases h1 with h | h; exact absurd h2 h; exact h
            subst h2 h4
            clear h1
            go_wp2_with (fail)
            go_roundg (n - (m + 1))
            case measure => have := HGG.out; omega
            case rel => exact ⟨m + 1, r, by omega, rfl, by go_num, HOW.out, by omega, yw, H3⟩
          · have hne : (x6 == q) = false := beq_eq_false_iff_ne.2 h2
            clear h1 h2
            go_wp2_with (fail)
            go_roundg (n - (m + 1))
            case measure => have := HGG.out; omega
            case rel => exact ⟨m + 1, r, by omega, rfl, by go_num, HOW.out, by omega, yw, H3⟩
      · have hmn : m = n := by omega
        have hR : r = R := by
          have h := HI.out
          rw [List.drop_eq_nil_of_le (by have := N.out; omega)] at h
          simpa [othersL] using h
        obtain ⟨A', c', rfl, _, _⟩ := hown.form
        have HOW := Lib.hid (hown.base_le y.size)
        clear hown
        go_wp2_with (fail)
        go_ret
        refine ⟨r, A', c', rfl, ?_, by have := HLE.out; have := N.out; omega, HOW.out, ext_trans y yr⟩
        rw [hR, HGL.out, ← RR.out]
        exact others_perm PM.out _ _
end Go.Proofs.YtfnkjcodcoehcaaGreatDoor
