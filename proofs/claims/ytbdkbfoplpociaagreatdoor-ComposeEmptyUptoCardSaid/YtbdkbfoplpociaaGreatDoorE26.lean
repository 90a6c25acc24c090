/- Merged texts: Made, OwLit, DocKit, OpGreat, OpKnown, Known19, Same06, SameOs. -/
import Derived.Test.YtbdkbfoplpociaaGreatDoorE25
import Derived.Test.YtbdkbfoplpociaaGreatDoorE24
import Derived.Test.YtbdkbfoplpociaaGreatDoorE20
import Derived.Test.YtbdkbfoplpociaaGreatDoorE13
import Derived.Test.YtbdkbfoplpociaaGreatDoorE21
import Derived.Test.YtbdkbfoplpociaaGreatDoorE18
import Derived.Test.YtbdkbfoplpociaaGreatDoorE17
import Derived.Test.YtbdkbfoplpociaaGreatDoorE22
import Derived.Test.YtbdkbfoplpociaaGreatDoorE14
import Derived.Test.YtbdkbfoplpociaaGreatDoorE2
import Derived.Test.YtbdkbfoplpociaaGreatDoorE10
namespace Go.Proofs.YtbdkbfoplpociaaGreatDoor
open Go.RowKit
set_option linter.unusedVariables false
set_option linter.unusedSimpArgs false

theorem nf_all {P : Un → Prop} (hd : P .del) {us : List Un} (h : ∀ u ∈ us, P u) : ∀ u ∈ nf us, P u := fun u hu => by
  obtain ⟨k, hk⟩ := trim_pre (canon us)
  refine cn_all hd us [] 0 (by simp) h u ?_
  show u ∈ canon us
  rw [hk]; exact List.mem_append_left _ hu
/-- a made delta may be handed on -/
theorem ok_made {x : List OpS} {m : Mk} {us : List Un} {K S : Nat} (hx : osOf x = mkOps m) (ht : Told m us) (hu : ∀ u ∈ us, okUn u) (hB : MkB m K S) (hK : K ≤ 100000000) (hS : S ≤ 100000000) : (∀ o ∈ x, okOp o.o) ∧ x.length ≤ K + 1 := by
  obtain ⟨h1, h2⟩ := ht.ops
  rw [← hx] at h1 h2
  obtain ⟨b1, b2⟩ := hB.ops
  rw [← hx] at b1 b2
  have hn := nf_all (P := okUn) trivial hu
  rw [← h2] at hn
  refine ⟨fun o ho => ?_, by unfold osOf at b1; simpa using b1⟩
  have hom : o.o ∈ osOf x := by unfold osOf; exact List.mem_map_of_mem ho
  obtain ⟨l1, l2, l3⟩ := b2 o.o hom
  have hop := tight_isOp h1 o.o hom
  have hsub : ∀ u ∈ unitsO o.o, okUn u := fun u hu => hn u (units_mem.2 ⟨o, ho, hu⟩)
  have nilr : okVr ([] : List At) := fun c hc => by cases hc
  have nils : okVs ([] : List Ch) := fun c hc => by cases hc
  refine ⟨?_, ?_, by omega, by omega, by omega⟩
  · rcases isOp_kind hop with hk | hk | hk
    · obtain ⟨e, hr⟩ := opI_of hop hk
      cases hr' : o.o.r with
      | nil => exact absurd hr' hr
      | cons r rs => exact hsub (.ins r o.o.s) (by unfold unitsO; rw [if_pos hk, hr']; simp)
    · obtain ⟨e, hr⟩ := opD_of hop hk
      rw [e]; exact nilr
    · obtain ⟨e, hr⟩ := opR_of hop hk
      rw [e]; exact nilr
  · rcases isOp_kind hop with hk | hk | hk
    · obtain ⟨e, hr⟩ := opI_of hop hk
      rw [e]; exact nils
    · obtain ⟨e, hr⟩ := opD_of hop hk
      rw [e]; exact nils
    · obtain ⟨e, hr⟩ := opR_of hop hk
      obtain ⟨k, hk2⟩ : ∃ k, o.o.n.toNat = k + 1 := ⟨o.o.n.toNat - 1, by omega⟩
      exact hsub (.ret o.o.p) (by unfold unitsO; rw [if_neg (by rw [hk]; decide), if_pos hk, hk2]; simp [List.replicate_succ])
/-- how it reads -/
theorem rd_made {w : World} {B : Nat} {A : Option Addr} {c : Nat} {x : List OpS} (ho : OwOs w B (.slice A x.length c) x) (hp : ∀ z ∈ x, ∃ g, PartN w B g z) : RdOp w w.heap.size A x := ⟨ho.rd OpS.enc_len, fun z hz => by
  obtain ⟨g, h1, h2, h3⟩ := hp z hz
  exact ⟨h1.1.rd encI32_len, h2.1.rd At.enc_len, h3.1.rd Ch.enc_len⟩⟩
/-- how cells of the call's own read -/
theorem rd_cells {w : World} {B B2 : Nat} {A : Option Addr} {c : Nat} {v : Value} {L : List ClS} (ho : OwCs w B (.slice A L.length c) L) (hp : ∀ z ∈ L, PartC w B2 v z) : RdCl w w.heap.size A L ∧ (∀ z ∈ L, z.c.s.length ≤ z.cs ∧ z.cs ≤ maxLen) ∧ L.length ≤ c := ⟨⟨ho.rd ClS.enc_len, fun z hz => (hp z hz).1.rd At.enc_len⟩, fun z hz => by
    obtain ⟨_, _, hv, hc1, hc2⟩ := (hp z hz).1.form
    injection hv with _ _ hcc
    subst hcc
    exact ⟨hc1, hc2⟩, ho.cap.1⟩
end Go.Proofs.YtbdkbfoplpociaaGreatDoor
namespace Go.Proofs.YtbdkbfoplpociaaGreatDoor
open Go.RowKit
set_option linter.unusedVariables false

theorem Ow.new {α : Type} {enc : α → List Value} {size : Nat} (hs : ∀ a, (enc a).length = size) (w : World) (e : TypeId) (l : List α) {cs : Array Value} (hc : cs.toList = l.flatMap enc) {n b B : Nat} (hn : n = l.length) (hm : n ≤ maxLen) (hB : B ≤ w.heap.size) (hb : b = w.heap.size) :
    Ow enc size e (w.alloc (.cells cs e)) B (.slice (some ⟨b, 0, none⟩) n n) l := by
  subst hb
  subst hn
  refine .inr ⟨by rw [flat_len hs], .inr ⟨w.heap.size, l.length, cs, rfl, hB, heap_alloc_new w (.cells cs e), Nat.le_refl _, hm, ?_, ?_⟩⟩
  · rw [← Array.length_toList, hc, flat_len hs]
  · rw [hc]
    exact List.take_of_length_le (by rw [flat_len hs]; exact Nat.le_refl _)
end Go.Proofs.YtbdkbfoplpociaaGreatDoor
namespace Go.Proofs.YtbdkbfoplpociaaGreatDoor
open Go.RowKit
set_option linter.unusedVariables false
set_option linter.unusedSimpArgs false

theorem Tryz.elOpD : Tryz.prog.elem 23 = 40 := by kernel_rfl
theorem Tryz.szOpD : (Tryz.prog.info? 40).map (·.size) = some 5 := by kernel_rfl
theorem size_opD (W : World) : (sizeOf 40).run Tryz.prog W = .ok 5 W := by
  cases h : Tryz.prog.info? 40 with
  | none => have := Tryz.szOpD; rw [h] at this; cases this
  | some i => have := Tryz.szOpD; rw [h] at this; simp at this; simp [sizeOf, typeInfo, h, this]
/-- cells at hand -/
structure DocAt (w : World) (A : Option Addr) (n c : Nat) (L : List ClS) : Prop where
  rd : RdCl w w.heap.size A L
  len : n = L.length
  cap : n ≤ c
  caps : ∀ z ∈ L, z.c.s.length ≤ z.cs ∧ z.cs ≤ maxLen
  vr : ∀ z ∈ L, z.c.s.length ≤ 1000000 ∧ okVr z.c.s
  b : n ≤ 20000
/-- ops at hand -/
structure OpsAt (w : World) (A : Option Addr) (n : Nat) (x : List OpS) : Prop where
  rd : RdOp w w.heap.size A x
  len : n = x.length
  ok : ∀ o ∈ x, okOp o.o
  b : n ≤ 1000000
theorem DocAt.ext {w w' : World} {A : Option Addr} {n c : Nat} {L : List ClS} (h : DocAt w A n c L) (y : Below w.heap.size w w') : DocAt w' A n c L := ⟨h.rd.ext y, h.len, h.cap, h.caps, h.vr, h.b⟩
theorem OpsAt.ext {w w' : World} {A : Option Addr} {n : Nat} {x : List OpS} (h : OpsAt w A n x) (y : Below w.heap.size w w') : OpsAt w' A n x := ⟨h.rd.ext y, h.len, h.ok, h.b⟩
theorem mem_cls {L : List ClS} {z : ClS} (h : z ∈ L) : z.c ∈ clsOf L := by unfold clsOf; exact List.mem_map_of_mem h
theorem DocAt.take {w : World} {A : Option Addr} {n c k : Nat} {L : List ClS} (h : DocAt w A n c L) (hk : k ≤ n) : DocAt w A k c (L.take k) :=
  ⟨h.rd.take k, by rw [List.length_take, ← h.len]; omega, by have := h.cap; omega, fun z hz => h.caps z (List.mem_of_mem_take hz), fun z hz => h.vr z (List.mem_of_mem_take hz), by have := h.b; omega⟩
theorem DocAt.drop {w : World} {A A' : Option Addr} {n c k n' c' : Nat} {L : List ClS} (h : DocAt w A n c L) (hA : advS A c k 2 = A') (hk : k ≤ n) (hn : n - k = n') (hc : c - k = c') : DocAt w A' n' c' (L.drop k) :=
  ⟨h.rd.from hA (by rw [← h.len]; exact hk) (by rw [← h.len]; exact h.cap), by rw [List.length_drop, ← h.len]; omega, by have := h.cap; omega, fun z hz => h.caps z (List.mem_of_mem_drop hz), fun z hz => h.vr z (List.mem_of_mem_drop hz), by have := h.b; omega⟩
/-- cells of the call's own are at hand -/
theorem DocAt.made {w : World} {B B2 : Nat} {A : Option Addr} {c : Nat} {v : Value} {L : List ClS} (ho : OwCs w B (.slice A L.length c) L) (hp : ∀ z ∈ L, PartC w B2 v z) (hv : ∀ x ∈ clsOf L, x.s.length ≤ 1000000 ∧ okVr x.s) (hb : L.length ≤ 20000) : DocAt w A L.length c L := by
  obtain ⟨h1, h2, h3⟩ := rd_cells ho hp
  exact ⟨h1, rfl, h3, h2, fun z hz => hv _ (mem_cls hz), hb⟩
/-- cells behind cells, appended to a row of the call's own -/
theorem DocAt.append {wn wa : World} {B : Nat} {A A' A4 : Option Addr} {n c c' n4 c4 : Nat} {P G : List ClS} (ho : OwCs wa B (.slice A' (P ++ G).length c') (P ++ G)) (hp : ∀ z ∈ P, PartC wn B (.slice A n c) z) (hg : DocAt wa A4 n4 c4 G) (hv : ∀ x ∈ clsOf P, x.s.length ≤ 1000000 ∧ okVr x.s)
    (hgr : wn.grownBy wa (wb (.slice A n c))) (hv' : Value.slice A' (P ++ G).length c' = .slice A n c ∧ wa = wn ∨ wb (.slice A' (P ++ G).length c') = wb (.slice A n c) ∨ wb (.slice A' (P ++ G).length c') = some wn.heap.size) (hb : (P ++ G).length ≤ 20000) : DocAt wa A' (P ++ G).length c' (P ++ G) := by
  have hP : ∀ z ∈ P, RdAt wa wa.heap.size z.As z.c.s ∧ z.c.s.length ≤ z.cs ∧ z.cs ≤ maxLen := fun z hz => by
    have h1 := ((hp z hz).app hgr hv').1
    refine ⟨h1.rd At.enc_len, ?_⟩
    obtain ⟨_, _, hv, hc1, hc2⟩ := h1.form
    injection hv with _ _ hcc
    subst hcc
    exact ⟨hc1, hc2⟩
  refine ⟨⟨ho.rd ClS.enc_len, fun z hz => ?_⟩, rfl, ho.cap.1, fun z hz => ?_, fun z hz => ?_, hb⟩
  · rcases List.mem_append.1 hz with hz | hz
    · exact (hP z hz).1
    · exact hg.rd.2 z hz
  · rcases List.mem_append.1 hz with hz | hz
    · exact (hP z hz).2
    · exact hg.caps z hz
  · rcases List.mem_append.1 hz with hz | hz
    · exact hv _ (mem_cls hz)
    · exact hg.vr z hz
/-- what a call answers that makes cells -/
def NewDoc (o : List Cl) (w : World) (e : Ending) (w' : World) : Prop :=
  ∃ A c L, e = .returned (.slice A L.length c) ∧ clsOf L = o ∧ DocAt w' A L.length c L ∧ Below w.heap.size w w'
theorem NewCls.doc {o : List Cl} {w w' : World} {e : Ending} (h : NewCls o w e w') (hv : ∀ x ∈ o, x.s.length ≤ 1000000 ∧ okVr x.s) (hb : o.length ≤ 20000) : NewDoc o w e w' := by
  obtain ⟨A, c, L, he, hL, ho, hp, y⟩ := h
  exact ⟨A, c, L, he, hL, DocAt.made ho hp (by rw [hL]; exact hv) (by rw [← clsOf_len, hL]; exact hb), y⟩
/-- what a call answers that makes ops -/
def NewOp (o : List Opd) (w : World) (e : Ending) (w' : World) : Prop :=
  ∃ A c x, e = .returned (.slice A x.length c) ∧ osOf x = o ∧ OpsAt w' A x.length x ∧ Below w.heap.size w w'
theorem NewOps.op {m : Mk} {us : List Un} {K S : Nat} {w w' : World} {e : Ending} (h : NewOps (mkOps m) w e w') (ht : Told m us) (hu : ∀ u ∈ us, okUn u) (hB : MkB m K S) (hK : K ≤ 900000) (hS : S ≤ 100000000) : NewOp (mkOps m) w e w' := by
  obtain ⟨A, c, x, he, hx, ho, hp, y⟩ := h
  obtain ⟨h1, h2⟩ := ok_made hx ht hu hB (by omega) hS
  exact ⟨A, c, x, he, hx, ⟨rd_made ho hp, rfl, h1, by omega⟩, y⟩
section
variable {w : World} {A B : Option Addr} {n c n2 c2 : Nat} {L M : List ClS}
end
end Go.Proofs.YtbdkbfoplpociaaGreatDoor
namespace Go.Proofs.YtbdkbfoplpociaaGreatDoor
open Go.RowKit
set_option linter.unusedVariables false
set_option linter.unusedSimpArgs false

structure SX where
  A : Option Addr
  c : Nat
  l : List OpS
def SX.enc (s : SX) : List Value := [.slice s.A s.l.length s.c]
end Go.Proofs.YtbdkbfoplpociaaGreatDoor
namespace Go.Proofs.YtbdkbfoplpociaaGreatDoor
open Go.RowKit
set_option linter.unusedVariables false
set_option linter.unusedSimpArgs false

theorem rd_ops (u : World) (l : List OpS) (hs : Sub u u.heap.size l) {cs : Array Value} (hc : cs.toList = l.flatMap OpS.enc) {b : Nat} (hb : b = u.heap.size) :
    RdOp (u.alloc (.cells cs 40)) (u.alloc (.cells cs 40)).heap.size (some ⟨b, 0, none⟩) l :=
  ⟨Rd.new (enc := OpS.enc) (size := 5) OpS.enc_len u 40 l hc hb, hs.ext (ext_alloc u _)⟩
theorem ok_small (o : Opd) (h1 : o.s = []) (h2 : o.p = []) (h3 : o.r.length ≤ 10) : okOp o := by
  refine ⟨?_, ?_, by omega, by rw [h1]; simp, by rw [h2]; simp⟩
  · rw [h1]; intro c hc; cases hc
  · rw [h2]; intro c hc; cases hc
end Go.Proofs.YtbdkbfoplpociaaGreatDoor
namespace Go.Proofs.YtbdkbfoplpociaaGreatDoor
open Go.RowKit
set_option linter.unusedVariables false
set_option linter.unusedSimpArgs false

def kK19 : List Ky := [⟨1, false, 1, false, false, 0⟩]
end Go.Proofs.YtbdkbfoplpociaaGreatDoor
namespace Go.Proofs.YtbdkbfoplpociaaGreatDoor
open Go.RowKit
set_option linter.unusedVariables false
set_option linter.unusedSimpArgs false

set_option maxRecDepth 100000 in
set_option maxHeartbeats 400000 in
theorem sameR6_any (A B : Option Addr) (n m c d : Nat) (l k : List Ch) (w : World) (hn : n = l.length) (hm : m = k.length) (h1 : RdCh w w.heap.size A l) (h2 : RdCh w w.heap.size B k) (hb : n ≤ 140737488355328) (hb2 : m ≤ 140737488355328) :
    Calls Tryz.prog 106 #[.slice A n c, .slice B m d] w (Quiet (.bool (decide (l = k))) w) := by
  have N := Lib.hid hn
  have M := Lib.hid hm
  generalize hR : decide (l = k) = R
  have HR := Lib.hid hR
  clear hn hR hm
  by_cases hnm : (n : Int) = m
  · have hnm' : n = m := by omega
    subst hnm'
    clear hnm
    go_enter Tryz.func106, Tryz.ntmps106
    go_wp2_with (fail)
    go_loopg [5] n (fun g iv wr => ∃ i : Nat, i ≤ n ∧ g = n - i ∧ iv = .int .i64 (i : Int) ∧ (∃ d, wr = w.drewN d) ∧ Hid (decide (l.drop i = k.drop i) = R))
    case atStart => exact ⟨0, by omega, rfl, rfl, ⟨0, rfl⟩, Lib.hid (by rw [List.drop_zero, List.drop_zero]; exact HR.out)⟩
    case round =>
      obtain ⟨i, hi, hg, rfl, ⟨q, rfl⟩, HI⟩ := hrel
      have HG := Lib.hid hg
      clear hg HR
      by_cases hlt : i < n
      · have hl1 : i < l.length := by have := N.out; omega
        have hl2 : i < k.length := by have := M.out; omega
        obtain ⟨ad, x, rfl, _, hd1, _, hc1⟩ := h1.el hl1
        obtain ⟨ad2, y, rfl, _, hd2, _, hc2⟩ := h2.el hl2
        have HI' : Hid (decide (x :: l.drop (i + 1) = y :: k.drop (i + 1)) = R) := Lib.hid (by rw [← HI.out, hd1, hd2])
        clear HI hd1 hd2
        obtain ⟨x1, x6, x2, x3, x4, x5⟩ := x
        obtain ⟨y1, y6, y2, y3, y4, y5⟩ := y
        obtain ⟨r0, r1, r2, r3, r4, r5⟩ := ch_cells hc1
        obtain ⟨s0, s1, s2, s3, s4, s5⟩ := ch_cells hc2
        by_cases hxy : (⟨x1, x6, ⟨x2, x3, x4, x5⟩⟩ : Ch) = ⟨y1, y6, ⟨y2, y3, y4, y5⟩⟩
        · have hq := beqCh_eq hxy
          have HXY := Lib.hid hxy
          clear hxy
          go_wp2_with (go_quiet (fail))
          go_roundg (n - (i + 1))
          case measure => have := HG.out; omega
          case rel => exact ⟨i + 1, by omega, rfl, by go_num, ⟨_, rfl⟩, Lib.hid (by rw [← HI'.out]; simp only [List.cons.injEq, HXY.out, true_and])⟩
        · have hq := beqCh_ne hxy
          have HXY := Lib.hid hxy
          clear hxy
          go_wp2_with (go_quiet (fail))
          go_ret
          exact ⟨ret_bool (by rw [← HI'.out]; exact (decide_eq_false fun e => HXY.out (List.cons.inj e).1).symm), _, World.drewN_drewN _ _ _⟩
      · go_wp2_with (fail)
        go_ret
        exact ⟨ret_bool (by rw [← HI.out, List.drop_eq_nil_of_le (by have := N.out; omega), List.drop_eq_nil_of_le (by have := M.out; omega)]; rfl), _, rfl⟩
  · have hne : ((n : Int) == m) = false := beq_eq_false_iff_ne.2 hnm
    go_enter Tryz.func106, Tryz.ntmps106
    go_wp2_with (fail)
    go_ret
    refine ⟨ret_bool ?_, 0, rfl⟩
    rw [← HR.out]
    refine (decide_eq_false fun e => ?_).symm
    have h3 := N.out
    have h4 := M.out
    rw [e] at h3
    omega

end Go.Proofs.YtbdkbfoplpociaaGreatDoor
namespace Go.Proofs.YtbdkbfoplpociaaGreatDoor
open Go.RowKit
set_option linter.unusedVariables false
set_option linter.unusedSimpArgs false

/-- an op's parts can be read and are no longer than Go bears -/
def OpIn (w : World) (x : OpS) : Prop :=
  RdI32 w w.heap.size x.Ar x.o.r ∧ RdAt w w.heap.size x.As x.o.s ∧ RdCh w w.heap.size x.Ap x.o.p ∧ x.o.r.length ≤ 140737488355328 ∧ x.o.s.length ≤ 140737488355328 ∧ x.o.p.length ≤ 140737488355328
theorem OpIn.ext {w w' : World} {x : OpS} (h : OpIn w x) (y : Below w.heap.size w w') : OpIn w' x := ⟨h.1.ext y, h.2.1.ext y, h.2.2.1.ext y, h.2.2.2⟩
def OpS.val (x : OpS) : Value := .agg #[.int .u8 x.o.k, .int .i64 x.o.n, .slice x.Ar x.o.r.length x.cr, .slice x.As x.o.s.length x.cs, .slice x.Ap x.o.p.length x.cp]
end Go.Proofs.YtbdkbfoplpociaaGreatDoor
