/- Merged texts: DocKit, Same06, SameOs. -/
import Derived.Test.YtipoeidmblnbbaaGreatDoorPk19
import Derived.Test.YtipoeidmblnbbaaGreatDoorPk25
import Derived.Test.YtipoeidmblnbbaaGreatDoorPk15
import Derived.Test.YtipoeidmblnbbaaGreatDoorPk2
import Derived.Test.YtipoeidmblnbbaaGreatDoorPk7
/- Cells and ops at hand, and what is called with them: the words of the document laws. -/
namespace Go.Proofs.YtipoeidmblnbbaaGreatDoor
open Go.RowKit
set_option linter.unusedVariables false
set_option linter.unusedSimpArgs false

theorem Tryz.elOpD : Tryz.prog.elem 34 = 46 := by kernel_rfl
theorem Tryz.szOpD : (Tryz.prog.info? 46).map (·.size) = some 5 := by kernel_rfl
theorem size_opD (W : World) : (sizeOf 46).run Tryz.prog W = .ok 5 W := by
  cases h : Tryz.prog.info? 46 with
  | none => have := Tryz.szOpD; rw [h] at this; cases this
  | some i => have := Tryz.szOpD; rw [h] at this; simp at this; simp [sizeOf, typeInfo, h, this]
/-- cells at hand -/
structure DocAt (w : World) (A : Option Addr) (n c : Nat) (L : List ClS) : Prop where
  rd : RdCl w w.heap.size A L
  len : n = L.length
  cap : n ≤ c
  caps : ∀ z ∈ L, z.c.s.length ≤ z.cs ∧ z.cs ≤ maxLen
  vr : ∀ z ∈ L, z.c.s.length ≤ 1000000 ∧ okVr z.c.s
  b : n ≤ 20000
/-- ops at hand -/
structure OpsAt (w : World) (A : Option Addr) (n : Nat) (x : List OpS) : Prop where
  rd : RdOp w w.heap.size A x
  len : n = x.length
  ok : ∀ o ∈ x, okOp o.o
  b : n ≤ 1000000
theorem DocAt.ext {w w' : World} {A : Option Addr} {n c : Nat} {L : List ClS} (h : DocAt w A n c L) (y : Below w.heap.size w w') : DocAt w' A n c L := ⟨h.rd.ext y, h.len, h.cap, h.caps, h.vr, h.b⟩
theorem OpsAt.ext {w w' : World} {A : Option Addr} {n : Nat} {x : List OpS} (h : OpsAt w A n x) (y : Below w.heap.size w w') : OpsAt w' A n x := ⟨h.rd.ext y, h.len, h.ok, h.b⟩
theorem mem_cls {L : List ClS} {z : ClS} (h : z ∈ L) : z.c ∈ clsOf L := by unfold clsOf; exact List.mem_map_of_mem h
theorem cls_mem {L : List ClS} {c : Cl} (h : c ∈ clsOf L) : ∃ z ∈ L, z.c = c := by
  obtain ⟨z, hz, e⟩ := List.mem_map.1 h
  exact ⟨z, hz, e⟩
theorem DocAt.cvr {w : World} {A : Option Addr} {n c : Nat} {L : List ClS} (h : DocAt w A n c L) : ∀ x ∈ clsOf L, okVr x.s := fun x hx => by
  obtain ⟨z, hz, rfl⟩ := cls_mem hx
  exact (h.vr z hz).2
theorem DocAt.clen {w : World} {A : Option Addr} {n c : Nat} {L : List ClS} (h : DocAt w A n c L) : (clsOf L).length = n := by rw [clsOf_len, ← h.len]
theorem DocAt.take {w : World} {A : Option Addr} {n c k : Nat} {L : List ClS} (h : DocAt w A n c L) (hk : k ≤ n) : DocAt w A k c (L.take k) :=
  ⟨h.rd.take k, by rw [List.length_take, ← h.len]; omega, by have := h.cap; omega, fun z hz => h.caps z (List.mem_of_mem_take hz), fun z hz => h.vr z (List.mem_of_mem_take hz), by have := h.b; omega⟩
theorem DocAt.drop {w : World} {A A' : Option Addr} {n c k n' c' : Nat} {L : List ClS} (h : DocAt w A n c L) (hA : advS A c k 2 = A') (hk : k ≤ n) (hn : n - k = n') (hc : c - k = c') : DocAt w A' n' c' (L.drop k) :=
  ⟨h.rd.from hA (by rw [← h.len]; exact hk) (by rw [← h.len]; exact h.cap), by rw [List.length_drop, ← h.len]; omega, by have := h.cap; omega, fun z hz => h.caps z (List.mem_of_mem_drop hz), fun z hz => h.vr z (List.mem_of_mem_drop hz), by have := h.b; omega⟩
/-- cells of the call's own are at hand -/
theorem DocAt.made {w : World} {B B2 : Nat} {A : Option Addr} {c : Nat} {v : Value} {L : List ClS} (ho : OwCs w B (.slice A L.length c) L) (hp : ∀ z ∈ L, PartC w B2 v z) (hv : ∀ x ∈ clsOf L, x.s.length ≤ 1000000 ∧ okVr x.s) (hb : L.length ≤ 20000) : DocAt w A L.length c L := by
  obtain ⟨h1, h2, h3⟩ := rd_cells ho hp
  exact ⟨h1, rfl, h3, h2, fun z hz => hv _ (mem_cls hz), hb⟩
/-- cells behind cells, appended to a row of the call's own -/
theorem DocAt.append {wn wa : World} {B : Nat} {A A' A4 : Option Addr} {n c c' n4 c4 : Nat} {P G : List ClS} (ho : OwCs wa B (.slice A' (P ++ G).length c') (P ++ G)) (hp : ∀ z ∈ P, PartC wn B (.slice A n c) z) (hg : DocAt wa A4 n4 c4 G) (hv : ∀ x ∈ clsOf P, x.s.length ≤ 1000000 ∧ okVr x.s)
    (hgr : wn.grownBy wa (wb (.slice A n c))) (hv' : Value.slice A' (P ++ G).length c' = .slice A n c ∧ wa = wn ∨ wb (.slice A' (P ++ G).length c') = wb (.slice A n c) ∨ wb (.slice A' (P ++ G).length c') = some wn.heap.size) (hb : (P ++ G).length ≤ 20000) : DocAt wa A' (P ++ G).length c' (P ++ G) := by
  have hP : ∀ z ∈ P, RdAt wa wa.heap.size z.As z.c.s ∧ z.c.s.length ≤ z.cs ∧ z.cs ≤ maxLen := fun z hz => by
    have h1 := ((hp z hz).app hgr hv').1
    refine ⟨h1.rd At.enc_len, ?_⟩
    obtain ⟨_, _, hv, hc1, hc2⟩ := h1.form
    injection hv with _ _ hcc
    subst hcc
    exact ⟨hc1, hc2⟩
  refine ⟨⟨ho.rd ClS.enc_len, fun z hz => ?_⟩, rfl, ho.cap.1, fun z hz => ?_, fun z hz => ?_, hb⟩
  · rcases List.mem_append.1 hz with hz | hz
    · exact (hP z hz).1
    · exact hg.rd.2 z hz
  · rcases List.mem_append.1 hz with hz | hz
    · exact (hP z hz).2
    · exact hg.caps z hz
  · rcases List.mem_append.1 hz with hz | hz
    · exact hv _ (mem_cls hz)
    · exact hg.vr z hz
/-- what a call answers that makes cells -/
def NewDoc (o : List Cl) (w : World) (e : Ending) (w' : World) : Prop :=
  ∃ A c L, e = .returned (.slice A L.length c) ∧ clsOf L = o ∧ DocAt w' A L.length c L ∧ Below w.heap.size w w'
theorem NewCls.doc {o : List Cl} {w w' : World} {e : Ending} (h : NewCls o w e w') (hv : ∀ x ∈ o, x.s.length ≤ 1000000 ∧ okVr x.s) (hb : o.length ≤ 20000) : NewDoc o w e w' := by
  obtain ⟨A, c, L, he, hL, ho, hp, y⟩ := h
  exact ⟨A, c, L, he, hL, DocAt.made ho hp (by rw [hL]; exact hv) (by rw [← clsOf_len, hL]; exact hb), y⟩
/-- what a call answers that makes ops -/
def NewOp (o : List Opd) (w : World) (e : Ending) (w' : World) : Prop :=
  ∃ A c x, e = .returned (.slice A x.length c) ∧ osOf x = o ∧ OpsAt w' A x.length x ∧ Below w.heap.size w w'
theorem NewOps.op {m : Mk} {us : List Un} {K S : Nat} {w w' : World} {e : Ending} (h : NewOps (mkOps m) w e w') (ht : Told m us) (hu : ∀ u ∈ us, okUn u) (hB : MkB m K S) (hK : K ≤ 900000) (hS : S ≤ 100000000) : NewOp (mkOps m) w e w' := by
  obtain ⟨A, c, x, he, hx, ho, hp, y⟩ := h
  obtain ⟨h1, h2⟩ := ok_made hx ht hu hB (by omega) hS
  exact ⟨A, c, x, he, hx, ⟨rd_made ho hp, rfl, h1, by omega⟩, y⟩
section
variable {w : World} {A B : Option Addr} {n c n2 c2 : Nat} {L M : List ClS}
theorem sameD (h1 : DocAt w A n c L) (h2 : DocAt w B n2 c2 M) {b : Bool} (hb : decide (clsOf L = clsOf M) = b) : Calls Tryz.prog 19 #[.slice A n c, .slice B n2 c2] w fun e w' => e = .returned (.bool b) ∧ Below w.heap.size w w' := by
  have h := cellsSame_any A B n n2 c c2 L M w h1.len h2.len h1.rd h2.rd (by have := h1.b; omega) (by have := h2.b; omega) (fun x hx => by have := (h1.vr x hx).1; omega) (fun x hx => by have := (h2.vr x hx).1; omega)
  rw [hb] at h
  exact h
theorem mayDoc {s : Nat} {l : List Ky} (h : DocAt w A n c L) (hS : Sch w s l) (hT : Lib.Utf8Tabs 1 2 w) {r : Int} (hr : mayD l (clsOf L) = r) : Calls Tryz.prog 14 #[.pointer (some ⟨s, 0, none⟩), .slice A n c] w fun e w' => e = .returned (.int .i64 r) ∧ Below w.heap.size w w' := by
  have h1 := mayCells_any s l A n c L w h.len h.rd (by have := h.b; omega) hS (fun x hx => ⟨by have := (h.vr x hx).1; omega, (h.vr x hx).2⟩) hT
  rw [hr] at h1
  exact h1
theorem applyDocI {s : Nat} {l : List Ky} {most : Int} {N : Nat} {x : List OpS} (h : DocAt w A n c L) (hx : OpsAt w B n2 x) (hS : Sch w s l) (hT : Lib.Utf8Tabs 1 2 w) (hl : l.length ≤ 64) (hmo : N ≤ 10000)
    {us : List Un} (hz : applyN l x (clsOf L) most = 0) (hN : applyN l x (clsOf L) (N : Int) = 0) (hu : app l (units (osOf x)) (clsOf L) = app l us (clsOf L)) :
    Calls Tryz.prog 17 #[.pointer (some ⟨s, 0, none⟩), .slice A n c, .slice B n2 c2, .int .i64 most] w (fun e w' => ∃ A c M, e = .returned (.tuple #[.slice A M.length c, .int .i64 0]) ∧ clsOf M = app l us (clsOf L) ∧ mayD l (clsOf M) = 0 ∧ M.length ≤ N ∧ DocAt w' A M.length c M ∧ Below w.heap.size w w') := by
  refine (applyD_any s l A B n c n2 c2 L x most w h.len hx.len h.cap (by have := h.b; omega) (by have := hx.b; omega) h.rd hx.rd hS (fun z hz => ⟨by have := (h.vr z hz).1; omega, (h.vr z hz).2⟩) h.caps hx.ok hT).mono ?_
  rintro e w' ⟨y, ⟨hne, _⟩ | ⟨_, A', c', M, rfl, hM, oM, pM⟩⟩
  · exact absurd hz hne
  · obtain ⟨hg, hf, cm⟩ := came hl (by have := hx.b; have := hx.len; omega) (by omega) hx.ok h.cvr hN
    rw [← hM] at cm
    have hlen : M.length ≤ N := by
      have h1 := cm.len
      have h2 := hf.m
      rw [clsOf_len] at h1
      omega
    exact ⟨A', c', M, rfl, hM.trans hu, cm.may, hlen, DocAt.made oM pM (fun z hz => ⟨by have := cm.s64 z hz; omega, cm.vr z hz⟩) (by omega), y⟩
theorem applyDoc {s : Nat} {l : List Ky} {most : Nat} {x : List OpS} (h : DocAt w A n c L) (hx : OpsAt w B n2 x) (hS : Sch w s l) (hT : Lib.Utf8Tabs 1 2 w) (hl : l.length ≤ 64) (hmo : most ≤ 10000)
    {us : List Un} (hz : applyN l x (clsOf L) (most : Int) = 0) (hu : app l (units (osOf x)) (clsOf L) = app l us (clsOf L)) :
    Calls Tryz.prog 17 #[.pointer (some ⟨s, 0, none⟩), .slice A n c, .slice B n2 c2, .int .i64 (most : Int)] w (fun e w' => ∃ A c M, e = .returned (.tuple #[.slice A M.length c, .int .i64 0]) ∧ clsOf M = app l us (clsOf L) ∧ mayD l (clsOf M) = 0 ∧ M.length ≤ most ∧ DocAt w' A M.length c M ∧ Below w.heap.size w w') :=
  applyDocI h hx hS hT hl hmo hz hz hu
theorem applyBad {s : Nat} {l : List Ky} {most : Int} {x : List OpS} (h : DocAt w A n c L) (hx : OpsAt w B n2 x) (hS : Sch w s l) (hT : Lib.Utf8Tabs 1 2 w) {r : Int} (hr : applyN l x (clsOf L) most = r) (hz : r ≠ 0) :
    Calls Tryz.prog 17 #[.pointer (some ⟨s, 0, none⟩), .slice A n c, .slice B n2 c2, .int .i64 most] w (fun e w' => e = .returned (.tuple #[.slice none 0 0, .int .i64 r]) ∧ Below w.heap.size w w') := by
  refine (applyD_any s l A B n c n2 c2 L x most w h.len hx.len h.cap (by have := h.b; omega) (by have := hx.b; omega) h.rd hx.rd hS (fun z hz => ⟨by have := (h.vr z hz).1; omega, (h.vr z hz).2⟩) h.caps hx.ok hT).mono ?_
  rintro e w' ⟨y, ⟨_, rfl⟩ | ⟨h0, _⟩⟩
  · exact ⟨by rw [hr], y⟩
  · exact absurd (hr.symm.trans h0) hz
theorem cutC_mem {d : List Cl} {i j : Int} {x : Cl} (h : x ∈ cutC d i j) : x ∈ d := by
  unfold cutC at h
  split at h
  · cases h
  · exact List.mem_of_mem_drop (List.mem_of_mem_take h)
theorem cutC_len (d : List Cl) (i j : Int) : (cutC d i j).length ≤ d.length := by
  unfold cutC
  split
  · exact Nat.zero_le _
  · rw [List.length_take, List.length_drop]; omega
theorem cutD_may {l : List Ky} {d : List Cl} (hd : mayD l d = 0) (hb : d.length ≤ 536870911) {i j : Int} : mayD l (cutC d i j ++ [⟨10, []⟩]) = 0 := by
  obtain ⟨h1, h2, t, c, h3, _⟩ := mayD_iff.1 hd
  refine frag_iff.2 ⟨?_, fun c hc => h2 c (cutC_mem hc)⟩
  exact Nat.le_trans (cutC_len d i j) hb
theorem cutDoc (h : DocAt w A n c L) (i j : Int) : Calls Tryz.prog 15 #[.slice A n c, .int .i64 i, .int .i64 j] w (NewDoc (cutC (clsOf L) i j) w) := by
  refine (cut_any A n c L i j w h.len h.cap h.rd (by have := h.b; omega) (fun x hx => by have := (h.vr x hx).1; omega)).mono fun e w' hN => hN.doc (fun x hx => ?_) ?_
  · obtain ⟨z, hz, rfl⟩ := cls_mem (cutC_mem hx)
    exact h.vr z hz
  · have := cutC_len (clsOf L) i j
    have := h.clen
    have := h.b
    omega
theorem copyDoc (h : DocAt w A n c L) : Calls Tryz.prog 20 #[.slice A n c] w (fun e w' => ∃ A' c' M, e = .returned (.slice A' M.length c') ∧ clsOf M = clsOf L ∧ OwCs w' w.heap.size (.slice A' M.length c') M ∧ (∀ z ∈ M, PartC w' w.heap.size (.slice A' M.length c') z) ∧ Below w.heap.size w w') :=
  copyCells_any A n c L w h.len h.rd (by have := h.b; omega) (fun x hx => by have := (h.vr x hx).1; omega)
theorem pasteDoc (h : DocAt w A n c L) (hs : ∀ x ∈ clsOf L, x.s.length ≤ 64) (p : Nat) (hp : p ≤ 1000000000000) : Calls Tryz.prog 18 #[.int .i64 (p : Int), .slice A n c] w (NewOp (mkOps (pasteM p (clsOf L))) w) := by
  refine (paste_any p A n c L w h.len h.rd (by have := h.b; omega) (fun x hx => hs _ (mem_cls hx))).mono fun e w' hN => hN.op (paste_told p (clsOf L) hp) (fun u hu => ?_) (paste_bnd p (clsOf L) hs) (by have := h.clen; have := h.b; omega) (by omega)
  unfold pasteU at hu
  rcases List.mem_append.1 hu with hu | hu
  · rw [(List.mem_replicate.1 hu).2]; intro c hc; cases hc
  · obtain ⟨x, hx, rfl⟩ := List.mem_map.1 hu
    exact h.cvr x hx
theorem fragDoc {s : Nat} {l : List Ky} (h : DocAt w A n c L) (hS : Sch w s l) (hT : Lib.Utf8Tabs 1 2 w) {r : Int} (hr : mayD l (clsOf L ++ [⟨10, []⟩]) = r) : Calls Tryz.prog 16 #[.pointer (some ⟨s, 0, none⟩), .slice A n c] w fun e w' => e = .returned (.int .i64 r) ∧ Below w.heap.size w w' := by
  have h1 := fragMay_any s l A n c L w h.len h.rd (by have := h.b; omega) hS (fun x hx => ⟨by have := (h.vr x hx).1; omega, (h.vr x hx).2⟩) hT
  rw [show clsOf L ++ blankC = clsOf L ++ [⟨10, []⟩] from rfl, hr] at h1
  exact h1
end
end Go.Proofs.YtipoeidmblnbbaaGreatDoor
/- The walk of the document's Same of a patch (rubricref06). -/
namespace Go.Proofs.YtipoeidmblnbbaaGreatDoor
open Go.RowKit
set_option linter.unusedVariables false
set_option linter.unusedSimpArgs false

set_option maxRecDepth 100000 in
set_option maxHeartbeats 400000 in
theorem sameR6_any (A B : Option Addr) (n m c d : Nat) (l k : List Ch) (w : World) (hn : n = l.length) (hm : m = k.length) (h1 : RdCh w w.heap.size A l) (h2 : RdCh w w.heap.size B k) (hb : n ≤ 140737488355328) (hb2 : m ≤ 140737488355328) :
    Calls Tryz.prog 75 #[.slice A n c, .slice B m d] w (Quiet (.bool (decide (l = k))) w) := by
  have N := Lib.hid hn
  have M := Lib.hid hm
  generalize hR : decide (l = k) = R
  have HR := Lib.hid hR
  clear hn hR hm
  by_cases hnm : (n : Int) = m
  · have hnm' : n = m := by omega
    subst hnm'
    clear hnm
    go_enter Tryz.func75, Tryz.ntmps75
    go_wp2_with (fail)
    go_loopg [5] n (fun g iv wr => ∃ i : Nat, i ≤ n ∧ g = n - i ∧ iv = .int .i64 (i : Int) ∧ (∃ d, wr = w.drewN d) ∧ Hid (decide (l.drop i = k.drop i) = R))
    case atStart => exact ⟨0, by omega, rfl, rfl, ⟨0, rfl⟩, Lib.hid (by rw [List.drop_zero, List.drop_zero]; exact HR.out)⟩
    case round =>
      obtain ⟨i, hi, hg, rfl, ⟨q, rfl⟩, HI⟩ := hrel
      have HG := Lib.hid hg
      clear hg HR
      by_cases hlt : i < n
      · have hl1 : i < l.length := by have := N.out; omega
        have hl2 : i < k.length := by have := M.out; omega
        obtain ⟨ad, x, rfl, _, hd1, _, hc1⟩ := h1.el hl1
        obtain ⟨ad2, y, rfl, _, hd2, _, hc2⟩ := h2.el hl2
        have HI' : Hid (decide (x :: l.drop (i + 1) = y :: k.drop (i + 1)) = R) := Lib.hid (by rw [← HI.out, hd1, hd2])
        clear HI hd1 hd2
        obtain ⟨x1, x6, x2, x3, x4, x5⟩ := x
        obtain ⟨y1, y6, y2, y3, y4, y5⟩ := y
        obtain ⟨r0, r1, r2, r3, r4, r5⟩ := ch_cells hc1
        obtain ⟨s0, s1, s2, s3, s4, s5⟩ := ch_cells hc2
        by_cases hxy : (⟨x1, x6, ⟨x2, x3, x4, x5⟩⟩ : Ch) = ⟨y1, y6, ⟨y2, y3, y4, y5⟩⟩
        · have hq := beqCh_eq hxy
          have HXY := Lib.hid hxy
          clear hxy
          go_wp2_with (go_quiet (fail))
          go_roundg (n - (i + 1))
          case measure => have := HG.out; omega
          case rel => exact ⟨i + 1, by omega, rfl, by go_num, ⟨_, rfl⟩, Lib.hid (by rw [← HI'.out]; simp only [List.cons.injEq, HXY.out, true_and])⟩
        · have hq := beqCh_ne hxy
          have HXY := Lib.hid hxy
          clear hxy
          go_wp2_with (go_quiet (fail))
          go_ret
          exact ⟨ret_bool (by rw [← HI'.out]; exact (decide_eq_false fun e => HXY.out (List.cons.inj e).1).symm), _, World.drewN_drewN _ _ _⟩
      · go_wp2_with (fail)
        go_ret
        exact ⟨ret_bool (by rw [← HI.out, List.drop_eq_nil_of_le (by have := N.out; omega), List.drop_eq_nil_of_le (by have := M.out; omega)]; rfl), _, rfl⟩
  · have hne : ((n : Int) == m) = false := beq_eq_false_iff_ne.2 hnm
    go_enter Tryz.func75, Tryz.ntmps75
    go_wp2_with (fail)
    go_ret
    refine ⟨ret_bool ?_, 0, rfl⟩
    rw [← HR.out]
    refine (decide_eq_false fun e => ?_).symm
    have h3 := N.out
    have h4 := M.out
    rw [e] at h3
    omega

end Go.Proofs.YtipoeidmblnbbaaGreatDoor
/- The walks of slices.Equal over runes and of ops.Same. -/
namespace Go.Proofs.YtipoeidmblnbbaaGreatDoor
open Go.RowKit
set_option linter.unusedVariables false
set_option linter.unusedSimpArgs false

set_option maxRecDepth 100000 in
set_option maxHeartbeats 400000 in
theorem equalI_any (A B : Option Addr) (n m c d : Nat) (l k : List Int) (w : World) (hn : n = l.length) (hm : m = k.length) (h1 : RdI32 w w.heap.size A l) (h2 : RdI32 w w.heap.size B k) (hb : n ≤ 140737488355328) (hb2 : m ≤ 140737488355328) :
    Calls Tryz.prog 105 #[.slice A n c, .slice B m d] w fun e w' => e = .returned (.bool (decide (l = k))) ∧ Below w.heap.size w w' := by
  have N := Lib.hid hn
  have M := Lib.hid hm
  generalize hR : decide (l = k) = R
  have HR := Lib.hid hR
  clear hn hR hm
  by_cases hnm : (n : Int) = m
  · have hnm' : n = m := by omega
    subst hnm'
    clear hnm
    go_enter Tryz.func105, Tryz.ntmps105
    go_wp2_with (fail)
    go_loopg [13] n (fun g iv wr => ∃ i : Nat, i ≤ n ∧ g = n - i ∧ iv = .int .i64 (i : Int) ∧ (∃ q, wr = w.drewN q) ∧ Hid (decide (l.drop i = k.drop i) = R))
    case atStart => exact ⟨0, by omega, rfl, rfl, ⟨0, rfl⟩, Lib.hid (by rw [List.drop_zero, List.drop_zero]; exact HR.out)⟩
    case round =>
      obtain ⟨i, hi, hg, rfl, ⟨q, rfl⟩, HI⟩ := hrel
      have HG := Lib.hid hg
      clear hg HR
      by_cases hlt : i < n
      · have hl1 : i < l.length := by have := N.out; omega
        have hl2 : i < k.length := by have := M.out; omega
        obtain ⟨ad, x, rfl, _, hd1, _, hc1⟩ := h1.el hl1
        obtain ⟨ad2, y, rfl, _, hd2, _, hc2⟩ := h2.el hl2
        have HI' : Hid (decide (x :: l.drop (i + 1) = y :: k.drop (i + 1)) = R) := Lib.hid (by rw [← HI.out, hd1, hd2])
        have r0 := hc1 0 _ rfl
        rw [add_zero', Nat.mul_one] at r0
        have s0 := hc2 0 _ rfl
        rw [add_zero', Nat.mul_one] at s0
        clear HI hd1 hd2 hc1 hc2
        by_cases hxy : x = y
        · subst hxy
          go_wp2_with (go_quiet (fail))
          go_roundg (n - (i + 1))
          case measure => have := HG.out; omega
          case rel => exact ⟨i + 1, by omega, rfl, by go_num, ⟨_, rfl⟩, Lib.hid (by rw [← HI'.out]; simp only [List.cons.injEq, true_and])⟩
        · have HXY := Lib.hid hxy
          have hne : (x == y) = false := beq_eq_false_iff_ne.2 hxy
          clear hxy
          go_wp2_with (go_quiet (fail))
          go_ret
          exact ⟨ret_bool (by rw [← HI'.out]; exact (decide_eq_false fun e => HXY.out (List.cons.inj e).1).symm), by rw [World.drewN_drewN]; exact ext_drew w _⟩
      · go_wp2_with (fail)
        go_ret
        exact ⟨ret_bool (by rw [← HI.out, List.drop_eq_nil_of_le (by have := N.out; omega), List.drop_eq_nil_of_le (by have := M.out; omega)]; rfl), ext_drew w _⟩
  · have hne : ((n : Int) == m) = false := beq_eq_false_iff_ne.2 hnm
    go_enter Tryz.func105, Tryz.ntmps105
    go_wp2_with (fail)
    go_ret
    refine ⟨ret_bool ?_, Below.refl _ _⟩
    rw [← HR.out]
    refine (decide_eq_false fun e => ?_).symm
    have h3 := N.out
    have h4 := M.out
    rw [e] at h3
    omega

/-- an op's parts can be read and are no longer than Go bears -/
def OpIn (w : World) (x : OpS) : Prop :=
  RdI32 w w.heap.size x.Ar x.o.r ∧ RdAt w w.heap.size x.As x.o.s ∧ RdCh w w.heap.size x.Ap x.o.p ∧ x.o.r.length ≤ 140737488355328 ∧ x.o.s.length ≤ 140737488355328 ∧ x.o.p.length ≤ 140737488355328
theorem OpIn.ext {w w' : World} {x : OpS} (h : OpIn w x) (y : Below w.heap.size w w') : OpIn w' x := ⟨h.1.ext y, h.2.1.ext y, h.2.2.1.ext y, h.2.2.2⟩
theorem box_op {w : World} {b : Nat} {t : TypeId} {c0 c1 c2 c3 c4 : Value} (h : w.heap[b]? = some (.cells #[c0, c1, c2, c3, c4] t (0, 0))) :
    w.cell? ⟨b, 0, none⟩ = some c0 ∧ w.cell? ⟨b, 1, none⟩ = some c1 ∧ w.cell? ⟨b, 2, none⟩ = some c2 ∧ w.cell? ⟨b, 3, none⟩ = some c3 ∧ w.cell? ⟨b, 4, none⟩ = some c4 := by
  simp [World.cell?, h]

def OpS.val (x : OpS) : Value := .agg #[.int .u8 x.o.k, .int .i64 x.o.n, .slice x.Ar x.o.r.length x.cr, .slice x.As x.o.s.length x.cs, .slice x.Ap x.o.p.length x.cp]
set_option maxRecDepth 100000 in
set_option maxHeartbeats 1600000 in
theorem sameOs1_any (x z : OpS) (w : World) (h1 : OpIn w x) (h2 : OpIn w z) :
    Calls Tryz.prog 104 #[x.val, z.val] w fun e w' => e = .returned (.bool (decide (x.o = z.o))) ∧ Below w.heap.size w w' := by
  obtain ⟨⟨k, nn, r, s, p⟩, Ar, cr, As, cs, Ap, cp⟩ := x
  obtain ⟨⟨k', nn', r', s', p'⟩, Ar', cr', As', cs', Ap', cp'⟩ := z
  have y1 := ext_alloc w (.cells #[.int .u8 k, .int .i64 nn, .slice Ar r.length cr, .slice As s.length cs, .slice Ap p.length cp] 46)
  have y2 := ext_alloc (w.alloc (.cells #[.int .u8 k, .int .i64 nn, .slice Ar r.length cr, .slice As s.length cs, .slice Ap p.length cp] 46)) (.cells #[.int .u8 k', .int .i64 nn', .slice Ar' r'.length cr', .slice As' s'.length cs', .slice Ap' p'.length cp'] 46)
  have yy := ext_trans y1 y2
  have HB1 := Lib.hid ((y2.block w.heap.size (by simp)).trans (heap_alloc_new w (.cells #[.int .u8 k, .int .i64 nn, .slice Ar r.length cr, .slice As s.length cs, .slice Ap p.length cp] 46)))
  have hb2 := heap_alloc_new (w.alloc (.cells #[.int .u8 k, .int .i64 nn, .slice Ar r.length cr, .slice As s.length cs, .slice Ap p.length cp] 46)) (.cells #[.int .u8 k', .int .i64 nn', .slice Ar' r'.length cr', .slice As' s'.length cs', .slice Ap' p'.length cp'] 46)
  rw [World.size_alloc] at hb2
  have HB2 := Lib.hid hb2
  obtain ⟨a0, a1, a2, a3, a4⟩ := box_op HB1.out
  have Q1 := Lib.hid (h1.ext yy)
  have Q2 := Lib.hid (h2.ext yy)
  have YY := Lib.hid yy
  clear y1 y2 h1 h2 hb2 yy
  simp only [OpS.val]
  generalize hR : decide ((⟨k, nn, r, s, p⟩ : Opd) = ⟨k', nn', r', s', p'⟩) = R
  have HR := Lib.hid hR
  clear hR
  by_cases hk : k = k'
  · subst hk
    by_cases hn : nn = nn'
    · subst hn
      cases hr : decide (r = r') with
      | false =>
        have hne : R = false := by rw [← HR.out]; exact decide_eq_false (fun e => absurd (Opd.mk.inj e).2.2.1 (of_decide_eq_false hr))
        subst hne
        have H := Lib.hid hr
        clear hr
        go_enter Tryz.func104, Tryz.ntmps104
        go_wp2_with (go_at_call 105; refine (equalI_any Ar Ar' r.length r'.length cr cr' r r' _ rfl rfl Q1.out.1 Q2.out.1 Q1.out.2.2.2.1 Q2.out.2.2.2.1).mono ?_; rintro e w1 ⟨rfl, y1⟩; rw [H.out])
        go_ret
        exact ⟨rfl, ext_trans YY.out y1⟩
      | true =>
        have er : r = r' := of_decide_eq_true hr
        subst er
        clear hr
        cases hs : decide (s = s') with
        | false =>
          have hne : R = false := by rw [← HR.out]; exact decide_eq_false (fun e => absurd (Opd.mk.inj e).2.2.2.1 (of_decide_eq_false hs))
          subst hne
          have H := Lib.hid hs
          clear hs
          go_enter Tryz.func104, Tryz.ntmps104
          go_wp2_with (go_at_call 105; refine Hid.out ?_)
          refine Lib.hid ?_
          refine (equalI_any Ar Ar' r.length r.length cr cr' r r _ rfl rfl Q1.out.1 Q2.out.1 Q1.out.2.2.2.1 Q2.out.2.2.2.1).mono ?_
          rintro e w1 ⟨rfl, y1⟩
          rw [decide_eq_true (rfl : r = r)]
          have b2 := Lib.hid ((y1.block w.heap.size (lt_of_some HB1.out)).trans HB1.out)
          have b3 := Lib.hid ((y1.block (w.heap.size + 1) (lt_of_some HB2.out)).trans HB2.out)
          obtain ⟨d0, d1, d2, d3, d4⟩ := box_op b2.out
          obtain ⟨f0, f1, f2, f3, f4⟩ := box_op b3.out
          have P1 := Lib.hid (Q1.out.ext y1)
          have P2 := Lib.hid (Q2.out.ext y1)
          have YZ := Lib.hid (ext_trans YY.out y1)
          go_wp2_with (go_at_call 57; refine Hid.out ?_)
          refine Lib.hid ?_
          refine (attrsSame_any As As' s.length s'.length cs cs' s s' _ rfl rfl P1.out.2.1 P2.out.2.1 P1.out.2.2.2.2.1 P2.out.2.2.2.2.1).mono ?_
          rintro e w2 ⟨rfl, q, rfl⟩
          rw [H.out]
          go_wp2_with (fail)
          go_ret
          exact ⟨rfl, below_drewN YZ.out q⟩
        | true =>
          have es : s = s' := of_decide_eq_true hs
          subst es
          clear hs
          have hp : R = decide (p = p') := by
            rw [← HR.out]
            by_cases h : p = p'
            · subst h; simp
            · rw [decide_eq_false h]; exact decide_eq_false (fun e => h (Opd.mk.inj e).2.2.2.2)
          have HP := Lib.hid hp
          clear hp HR
          go_enter Tryz.func104, Tryz.ntmps104
          go_wp2_with (go_at_call 105; refine Hid.out ?_)
          refine Lib.hid ?_
          refine (equalI_any Ar Ar' r.length r.length cr cr' r r _ rfl rfl Q1.out.1 Q2.out.1 Q1.out.2.2.2.1 Q2.out.2.2.2.1).mono ?_
          rintro e w1 ⟨rfl, y1⟩
          rw [decide_eq_true (rfl : r = r)]
          have b2 := Lib.hid ((y1.block w.heap.size (lt_of_some HB1.out)).trans HB1.out)
          have b3 := Lib.hid ((y1.block (w.heap.size + 1) (lt_of_some HB2.out)).trans HB2.out)
          obtain ⟨d0, d1, d2, d3, d4⟩ := box_op b2.out
          obtain ⟨f0, f1, f2, f3, f4⟩ := box_op b3.out
          have P1 := Lib.hid (Q1.out.ext y1)
          have P2 := Lib.hid (Q2.out.ext y1)
          have YZ := Lib.hid (ext_trans YY.out y1)
          go_wp2_with (go_at_call 57; refine Hid.out ?_)
          refine Lib.hid ?_
          refine (attrsSame_any As As' s.length s.length cs cs' s s _ rfl rfl P1.out.2.1 P2.out.2.1 P1.out.2.2.2.2.1 P2.out.2.2.2.2.1).mono ?_
          rintro e w2 ⟨rfl, q, rfl⟩
          rw [decide_eq_true (rfl : s = s)]
          go_wp2_with (go_at_call 96; refine Hid.out ?_)
          refine Lib.hid ?_
          refine (sameC_any Ap Ap' p.length p'.length cp cp' p p' (w1.drewN q) rfl rfl (P1.out.2.2.1.drewN q) (P2.out.2.2.1.drewN q) P1.out.2.2.2.2.2 P2.out.2.2.2.2.2).mono ?_
          rintro e w3 ⟨rfl, q2, rfl⟩
          rw [← HP.out]
          cases R
          all_goals
            go_wp2_with (fail)
            go_ret
            exact ⟨rfl, below_drewN YZ.out (q + q2)⟩
    · have hne : R = false := by rw [← HR.out]; exact decide_eq_false (fun e => hn (Opd.mk.inj e).2.1)
      subst hne
      have hnn : (nn == nn') = false := beq_eq_false_iff_ne.2 hn
      clear hn
      go_enter Tryz.func104, Tryz.ntmps104
      go_wp2_with (fail)
      go_ret
      exact ⟨rfl, YY.out⟩
  · have hne : R = false := by rw [← HR.out]; exact decide_eq_false (fun e => hk (Opd.mk.inj e).1)
    subst hne
    have hkk : (k == k') = false := beq_eq_false_iff_ne.2 hk
    clear hk
    go_enter Tryz.func104, Tryz.ntmps104
    go_wp2_with (fail)
    go_ret
    exact ⟨rfl, YY.out⟩
set_option maxRecDepth 100000 in
set_option maxHeartbeats 800000 in
theorem equalOs_any (A B : Option Addr) (n m c d : Nat) (l k : List OpS) (w : World) (hn : n = l.length) (hm : m = k.length) (h1 : RdOp w w.heap.size A l) (h2 : RdOp w w.heap.size B k) (hb : n ≤ 100000000) (hb2 : m ≤ 100000000)
    (hs1 : ∀ x ∈ l, x.o.r.length ≤ 140737488355328 ∧ x.o.s.length ≤ 140737488355328 ∧ x.o.p.length ≤ 140737488355328) (hs2 : ∀ x ∈ k, x.o.r.length ≤ 140737488355328 ∧ x.o.s.length ≤ 140737488355328 ∧ x.o.p.length ≤ 140737488355328) :
    Calls Tryz.prog 103 #[.slice A n c, .slice B m d, .func (.func 104) #[] #[]] w fun e w' => e = .returned (.bool (decide (osOf l = osOf k))) ∧ Below w.heap.size w w' := by
  have N := Lib.hid hn
  have M := Lib.hid hm
  have H1 := Lib.hid h1
  have H2 := Lib.hid h2
  have S1 := Lib.hid hs1
  have S2 := Lib.hid hs2
  generalize hR : decide (osOf l = osOf k) = R
  have HR := Lib.hid hR
  clear hn hR hm h1 h2 hs1 hs2
  have HL : Hid (∀ x : List OpS, (osOf x).length = x.length) := Lib.hid (fun x => by unfold osOf; simp)
  by_cases hnm : (n : Int) = m
  · have hnm' : n = m := by omega
    subst hnm'
    clear hnm
    go_enter Tryz.func103, Tryz.ntmps103
    go_wp2_with (fail)
    go_loopg [17] n (fun g iv wr => ∃ i : Nat, i ≤ n ∧ g = n - i ∧ iv = .int .i64 (i : Int) ∧ Below w.heap.size w wr ∧ Hid (decide (osOf (l.drop i) = osOf (k.drop i)) = R))
    case atStart => exact ⟨0, by omega, rfl, rfl, Below.refl _ _, Lib.hid (by rw [List.drop_zero, List.drop_zero]; exact HR.out)⟩
    case round =>
      obtain ⟨i, hi, hg, rfl, y, HI⟩ := hrel
      have HG := Lib.hid hg
      clear hg HR
      by_cases hlt : i < n
      · have hl1 : i < l.length := by have := N.out; omega
        have hl2 : i < k.length := by have := M.out; omega
        obtain ⟨ad, x, rfl, _, hd1, hx1, hc1⟩ := (H1.out.ext y).1.el hl1
        obtain ⟨ad2, x', rfl, had2, hd2, hx2, hc2⟩ := (H2.out.ext y).1.el hl2
        have hm1 := List.mem_of_getElem? hx1
        have hm2 := List.mem_of_getElem? hx2
        have p1 := Lib.hid (show OpIn w x from ⟨(H1.out.2 x hm1).1, (H1.out.2 x hm1).2.1, (H1.out.2 x hm1).2.2, S1.out x hm1⟩)
        have p2 := Lib.hid (show OpIn w x' from ⟨(H2.out.2 x' hm2).1, (H2.out.2 x' hm2).2.1, (H2.out.2 x' hm2).2.2, S2.out x' hm2⟩)
        have HI' : Hid (decide (x.o :: osOf (l.drop (i + 1)) = x'.o :: osOf (k.drop (i + 1))) = R) := Lib.hid (by rw [← HI.out, hd1, hd2]; rfl)
        clear HI hd1 hd2 hx1 hx2 hm1 hm2
        obtain ⟨⟨k1, n1, r1, s1, q1⟩, Ar1, cr1, As1, cs1, Ap1, cp1⟩ := x
        obtain ⟨⟨k2, n2, r2, s2, q2⟩, Ar2, cr2, As2, cs2, Ap2, cp2⟩ := x'
        obtain ⟨z0, z1, z2, z3, z4⟩ := op_cells hc1
        have ya := ext_alloc wr (.cells #[.int .u8 k1, .int .i64 n1, .slice Ar1 r1.length cr1, .slice As1 s1.length cs1, .slice Ap1 q1.length cp1] 46)
        obtain ⟨u0, u1, u2, u3, u4⟩ := op_cells (hc2.keep (w' := wr.alloc (.cells #[.int .u8 k1, .int .i64 n1, .slice Ar1 r1.length cr1, .slice As1 s1.length cs1, .slice Ap1 q1.length cp1] 46)) fun q hq => ya.cell (by rw [hq, add_block]; exact had2))
        clear hc1 hc2 hl1 hl2 had2
        have yb := ext_alloc (wr.alloc (.cells #[.int .u8 k1, .int .i64 n1, .slice Ar1 r1.length cr1, .slice As1 s1.length cs1, .slice Ap1 q1.length cp1] 46)) (.cells #[.int .u8 k2, .int .i64 n2, .slice Ar2 r2.length cr2, .slice As2 s2.length cs2, .slice Ap2 q2.length cp2] 46)
        have y3 := Lib.hid (ext_trans y (ext_trans ya yb))
        clear ya yb
        go_wp2_with (go_at_call 104; refine Hid.out ?_)
        refine Lib.hid ?_
        refine (sameOs1_any ⟨⟨k1, n1, r1, s1, q1⟩, Ar1, cr1, As1, cs1, Ap1, cp1⟩ ⟨⟨k2, n2, r2, s2, q2⟩, Ar2, cr2, As2, cs2, Ap2, cp2⟩ _ (p1.out.ext y3.out) (p2.out.ext y3.out)).mono ?_
        rintro e w' ⟨he, y4⟩
        simp only at he
        subst he
        have yy := ext_trans y3.out y4
        have hw2 : IntKind.i64.wrap ((i:Int) + 1) = (i : Int) + 1 := IntWalk.i64_in _ (by omega)
        by_cases hxy : (⟨k1, n1, r1, s1, q1⟩ : Opd) = ⟨k2, n2, r2, s2, q2⟩
        · have HXY := Lib.hid hxy
          rw [decide_eq_true hxy]
          clear hxy
          go_wp2_with (fail)
          go_roundg (n - (i + 1))
          case measure => have := HG.out; omega
          case rel => exact ⟨i + 1, by omega, rfl, by go_num, yy, Lib.hid (by rw [← HI'.out]; simp only [List.cons.injEq, HXY.out, true_and])⟩
        · have HXY := Lib.hid hxy
          rw [decide_eq_false hxy]
          clear hxy
          go_wp2_with (fail)
          go_ret
          exact ⟨ret_bool (by rw [← HI'.out]; exact (decide_eq_false fun e => HXY.out (List.cons.inj e).1).symm), yy⟩
      · go_wp2_with (fail)
        go_ret
        exact ⟨ret_bool (by rw [← HI.out, List.drop_eq_nil_of_le (by have := N.out; omega), List.drop_eq_nil_of_le (by have := M.out; omega)]; rfl), y⟩
  · have hne : ((n : Int) == m) = false := beq_eq_false_iff_ne.2 hnm
    go_enter Tryz.func103, Tryz.ntmps103
    go_wp2_with (fail)
    go_ret
    refine ⟨ret_bool ?_, Below.refl _ _⟩
    rw [← HR.out]
    refine (decide_eq_false fun e => ?_).symm
    have h3 := N.out
    have h4 := M.out
    have h5 := congrArg List.length e
    rw [HL.out, HL.out] at h5
    omega
set_option maxHeartbeats 400000 in
theorem opsSame_any (A B : Option Addr) (n m c d : Nat) (l k : List OpS) (w : World) (hn : n = l.length) (hm : m = k.length) (h1 : RdOp w w.heap.size A l) (h2 : RdOp w w.heap.size B k) (hb : n ≤ 100000000) (hb2 : m ≤ 100000000)
    (hs1 : ∀ x ∈ l, x.o.r.length ≤ 140737488355328 ∧ x.o.s.length ≤ 140737488355328 ∧ x.o.p.length ≤ 140737488355328) (hs2 : ∀ x ∈ k, x.o.r.length ≤ 140737488355328 ∧ x.o.s.length ≤ 140737488355328 ∧ x.o.p.length ≤ 140737488355328) :
    Calls Tryz.prog 64 #[.slice A n c, .slice B m d] w fun e w' => e = .returned (.bool (decide (osOf l = osOf k))) ∧ Below w.heap.size w w' := by
  have H := Lib.hid (equalOs_any A B n m c d l k w hn hm h1 h2 hb hb2 hs1 hs2)
  clear hn hm h1 h2 hs1 hs2
  generalize decide (osOf l = osOf k) = R at *
  go_enter Tryz.func64, Tryz.ntmps64
  go_wp2_with (go_at_call 103; refine Hid.out ?_)
  refine Lib.hid ?_
  refine H.out.mono ?_
  rintro e w' ⟨rfl, y⟩
  go_wp2_with (fail)
  go_ret
  exact ⟨rfl, y⟩

end Go.Proofs.YtipoeidmblnbbaaGreatDoor
