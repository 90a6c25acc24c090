/- Merged texts: OwLit, FragW, DocKit. -/
import Derived.Test.YtfnkjcodcoehcaaGreatDoorP12
import Derived.Test.YtfnkjcodcoehcaaGreatDoorP17
import Derived.Test.YtfnkjcodcoehcaaGreatDoorP19
import Derived.Test.YtfnkjcodcoehcaaGreatDoorP20
import Derived.Test.YtfnkjcodcoehcaaGreatDoorP21
import Derived.Test.YtfnkjcodcoehcaaGreatDoorP16
import Derived.Test.YtfnkjcodcoehcaaGreatDoorP15
namespace Go.Proofs.YtfnkjcodcoehcaaGreatDoor
open Go.RowKit
set_option linter.unusedVariables false

theorem Ow.new {α : Type} {enc : α → List Value} {size : Nat} (hs : ∀ a, (enc a).length = size) (w : World) (e : TypeId) (l : List α) {cs : Array Value} (hc : cs.toList = l.flatMap enc) {n b B : Nat} (hn : n = l.length) (hm : n ≤ maxLen) (hB : B ≤ w.heap.size) (hb : b = w.heap.size) :
    Ow enc size e (w.alloc (.cells cs e)) B (.slice (some ⟨b, 0, none⟩) n n) l := by
  subst hb
  subst hn
  refine .inr ⟨by rw [flat_len hs], .inr ⟨w.heap.size, l.length, cs, rfl, hB, heap_alloc_new w (.cells cs e), Nat.le_refl _, hm, ?_, ?_⟩⟩
  · rw [← Array.length_toList, hc, flat_len hs]
  · rw [hc]
    exact List.take_of_length_le (by rw [flat_len hs]; exact Nat.le_refl _)
end Go.Proofs.YtfnkjcodcoehcaaGreatDoor
namespace Go.Proofs.YtfnkjcodcoehcaaGreatDoor
open Go.RowKit
set_option linter.unusedVariables false
set_option linter.unusedSimpArgs false

def blankC : List Cl := [⟨10, []⟩]
set_option maxHeartbeats 400000 in
theorem blank_any (w : World) : Calls Tryz.prog 72 #[] w (NewCls blankC w) := by
  go_enter Tryz.func72, Tryz.ntmps72
  go_wp2_with (fail)
  go_ret
  refine ⟨some ⟨w.heap.size, 0, none⟩, 1, [⟨⟨10, []⟩, none, 0⟩], rfl, rfl, Ow.new (n := 1) (enc := ClS.enc) (size := 2) ClS.enc_len w 38 [⟨⟨10, []⟩, none, 0⟩] rfl rfl (by unfold maxLen; omega) (Nat.le_refl _) rfl, fun z hz => ?_, ext_alloc w _⟩
  simp only [List.mem_cons, List.not_mem_nil, or_false] at hz
  subst hz
  exact ⟨Ow.nil _ _, fun k hk => by cases hk⟩
/-- the cells of a cut -/
def cutC (d : List Cl) (i j : Int) : List Cl := if i < 0 ∨ j < i ∨ (d.length : Int) < j then [] else (d.drop i.toNat).take (j.toNat - i.toNat)
set_option maxRecDepth 100000 in
set_option maxHeartbeats 800000 in
theorem cut_any (A : Option Addr) (n c : Nat) (d : List ClS) (i j : Int) (w : World) (hn : n = d.length) (hc : n ≤ c) (h : RdCl w w.heap.size A d) (hb : n ≤ 100000000) (hs : ∀ x ∈ d, x.c.s.length ≤ 100000000) :
    Calls Tryz.prog 16 #[.slice A n c, .int .i64 i, .int .i64 j] w (NewCls (cutC (clsOf d) i j) w) := by
  have N := Lib.hid hn
  have HR := Lib.hid h
  have HS := Lib.hid hs
  clear h hs
  have none_ : ∀ v, NewCls [] v (.returned (.slice none 0 0)) v := fun v => ⟨none, 0, [], rfl, rfl, Ow.nil _ _, (fun x hx => by cases hx), Below.refl _ _⟩
  by_cases h0 : i < 0
  · rw [show cutC (clsOf d) i j = [] from if_pos (.inl h0)]
    go_enter Tryz.func16, Tryz.ntmps16
    go_wp2_with (fail)
    go_ret
    exact none_ _
  by_cases h1 : j < i
  · rw [show cutC (clsOf d) i j = [] from if_pos (.inr (.inl h1))]
    go_enter Tryz.func16, Tryz.ntmps16
    go_wp2_with (fail)
    go_ret
    exact none_ _
  by_cases h2 : (n : Int) < j
  · rw [show cutC (clsOf d) i j = [] from if_pos (.inr (.inr (by rw [clsOf_len, ← hn]; exact h2)))]
    go_enter Tryz.func16, Tryz.ntmps16
    go_wp2_with (fail)
    go_ret
    exact none_ _
  obtain ⟨a, rfl⟩ : ∃ a : Nat, i = a := ⟨i.toNat, by omega⟩
  obtain ⟨b, rfl⟩ : ∃ a : Nat, j = a := ⟨j.toNat, by omega⟩
  have hab : a ≤ b := by omega
  have hbn : b ≤ n := by omega
  obtain ⟨A8, hA8⟩ : ∃ X, advS A c a 2 = X := ⟨_, rfl⟩
  obtain ⟨n8, hn8⟩ : ∃ X, b - a = X := ⟨_, rfl⟩
  obtain ⟨c8, hc8⟩ : ∃ X, c - a = X := ⟨_, rfl⟩
  have sl1 : ∀ W, (Instr.slice 23 (.slice A n c) (some (.int .i64 (a : Int))) (some (.int .i64 (b : Int))) none).run Tryz.prog W = .ok (.slice A8 n8 c8) W := sl_both Tryz.slCl Tryz.elCl size_cl rfl rfl hA8 hn8 hc8 hab (by omega)
  have R8 : Hid (RdCl w w.heap.size A8 ((d.drop a).take n8)) := Lib.hid ((HR.out.from hA8 (by omega) (by omega)).take n8)
  have L8 : Hid (n8 = ((d.drop a).take n8).length) := Lib.hid (by rw [List.length_take, List.length_drop]; omega)
  have E8 : Hid (cutC (clsOf d) a b = clsOf ((d.drop a).take n8)) := Lib.hid (by
    unfold cutC
    rw [if_neg (by rw [clsOf_len, ← hn]; omega), clsOf_take, clsOf_drop, ← hn8]; rfl)
  have B8 : Hid (n8 ≤ 100000000) := Lib.hid (by omega)
  rw [E8.out]
  clear hA8 hn8 hc8 hn hc hb
  go_enter Tryz.func16, Tryz.ntmps16
  go_wp2_with (go_at_call 63; refine Hid.out ?_)
  refine Lib.hid ?_
  refine (copyCells_any A8 n8 c8 _ w L8.out R8.out B8.out (fun x hx => HS.out x (List.mem_of_mem_drop (List.mem_of_mem_take hx)))).mono ?_
  rintro e w1 ⟨A1, k1, L, rfl, hL, oL, pL, yL⟩
  have HN : Hid (NewCls (clsOf ((d.drop a).take n8)) w (.returned (.slice A1 L.length k1)) w1) := Lib.hid ⟨A1, k1, L, rfl, hL, oL, pL, yL⟩
  clear hL oL pL yL
  go_wp2_with (fail)
  go_ret
  exact HN.out


theorem pasteM_new (p : Int) : InsB (mkRetain Mk.new p []) 0 := by
  unfold mkRetain
  split
  · exact InsB.new
  · exact ⟨Nat.le_refl _, fun o h => by cases h⟩
theorem paste_bnd (p : Int) (f : List Cl) (hs : ∀ c ∈ f, c.s.length ≤ 64) : MkB (pasteM p f) (2 + f.length) 64 := by
  have h0 : MkB (mkRetain Mk.new p []) 2 64 := by
    have := (MkB.new 64).retain p (p := []) (by simp)
    exact this.mono (by omega) (Nat.le_refl _)
  unfold pasteM
  generalize mkRetain Mk.new p [] = m at h0
  generalize 2 = K at h0
  induction f generalizing m K with
  | nil => exact h0
  | cons c f ih =>
    have h1 := h0.insert [c.r] (hs c (by simp))
    have h2 := ih (fun x hx => hs x (List.mem_cons_of_mem _ hx)) _ _ h1
    have e : tellM m (c :: f) = tellM (mkInsert m [c.r] c.s) f := rfl
    rw [e]
    exact h2.mono (by simp; omega) (Nat.le_refl _)
set_option maxRecDepth 100000 in
set_option maxHeartbeats 1600000 in
theorem paste_any (p : Int) (A : Option Addr) (n c : Nat) (f : List ClS) (w : World) (hn : n = f.length) (hr : RdCl w w.heap.size A f) (hb : n ≤ 100000) (hs : ∀ x ∈ f, x.c.s.length ≤ 64) :
    Calls Tryz.prog 21 #[.int .i64 p, .slice A n c] w (NewOps (mkOps (pasteM p (clsOf f))) w) := by
  have N := Lib.hid hn
  have HR := Lib.hid hr.1
  have HP := Lib.hid hr.2
  have HS := Lib.hid hs
  have HSC : Hid (∀ c ∈ clsOf f, c.s.length ≤ 64) := Lib.hid (fun c hc => by
    unfold clsOf at hc
    obtain ⟨x, hx, rfl⟩ := List.mem_map.1 hc
    exact hs x hx)
  have HK := Lib.hid (fun i => (pasteM_new p).tell ((clsOf f).take i) (fun c hc => by
    have := HSC.out c (List.mem_of_mem_take hc); omega))
  have HB := Lib.hid ((paste_bnd p (clsOf f) HSC.out).gap)
  have HBL := Lib.hid ((paste_bnd p (clsOf f) HSC.out).len)
  have HL : Hid ((clsOf f).length = n) := Lib.hid (by unfold clsOf; simp [hn])
  clear hn hr hs
  go_enter Tryz.func21, Tryz.ntmps21
  go_wp2_with (go_at_call 74; refine Hid.out ?_)
  refine Lib.hid ?_
  refine (mkNew_any w).mono ?_
  rintro e w1 ⟨rfl, hm, y1⟩
  have HM := Lib.hid hm
  have Y1 := Lib.hid y1
  clear hm y1
  have hF : ∀ k, k = w.heap.size → w.heap.size ≤ k := fun k hk => by omega
  go_wp2_with (go_at_call 75; refine Hid.out ?_)
  refine Lib.hid ?_
  refine (mkRetain_any w.heap.size none p 0 0 [] w1 (fun k => k = w.heap.size) Mk.new HM.out rfl Rd.nil (fun ad e => by cases e) (by simp) (by simp [Mk.new]) (fun o ho => by simp [Mk.new, mkGap] at ho)).mono ?_
  rintro e w2 ⟨rfl, F2, hm2, g2⟩
  have y2 := Lib.hid (Y1.out.trans (g2.below (B := w.heap.size) hF Y1.out.size))
  have low2 := Lib.hid (g2.low (B := w.heap.size) hF Y1.out.size)
  have HM2 := Lib.hid hm2
  have HR2 : Hid (Rd ClS.enc 2 w2 w2.heap.size A f ∧ OffF F2 A f.length ∧ ∀ x ∈ f, RdAt w2 w2.heap.size x.As x.c.s ∧ OffF F2 x.As x.c.s.length) := Lib.hid ⟨HR.out.ext y2.out, HR.out.offF low2.out, fun x hx => ⟨(HP.out x hx).ext y2.out, (HP.out x hx).offF low2.out⟩⟩
  clear hm2 g2
  go_wp2_with (fail)
  go_loopg [13] n (fun g iv wr => ∃ (i : Nat) (F' : Nat → Prop), i ≤ n ∧ g = n - i ∧ iv = .int .i64 (i : Int) ∧ Mkr wr F' w.heap.size (tellM (mkRetain Mk.new p []) ((clsOf f).take i)) ∧ Grow w2 F2 wr F')
  case atStart => exact ⟨0, F2, by omega, rfl, rfl, HM2.out, Grow.refl _ _⟩
  case round =>
    obtain ⟨i, F', hi, hg, rfl, hm, gr⟩ := hrel
    have HG := Lib.hid hg
    have HM := Lib.hid hm
    clear hg hm
    by_cases hlt : i < n
    · have hl1 : i < f.length := by have := N.out; omega
      obtain ⟨ad, x, rfl, had, _, hx, hc1⟩ := (HR2.out.1.grow gr HR2.out.2.1).el hl1
      have hxm := List.mem_of_getElem? hx
      have hxc : (clsOf f)[i]? = some x.c := by unfold clsOf; rw [List.getElem?_map, hx]; rfl
      have HT : Hid (tellM (mkRetain Mk.new p []) ((clsOf f).take (i + 1)) = mkInsert (tellM (mkRetain Mk.new p []) ((clsOf f).take i)) [x.c.r] x.c.s) := Lib.hid (by rw [List.take_add_one, hxc]; exact tellM_snoc _ _ _)
      have RS := Lib.hid ((HR2.out.2.2 x hxm).1.grow gr (HR2.out.2.2 x hxm).2)
      have SL := Lib.hid (HS.out x hxm)
      have KB := Lib.hid (HK.out i)
      have KL := Lib.hid (show ((clsOf f).take i).length ≤ n by rw [List.length_take]; omega)
      obtain ⟨⟨r, s⟩, As, cs⟩ := x
      obtain ⟨z0, z1⟩ := cl_cells hc1
      have yb : Below wr.heap.size wr (wr.alloc (.cells #[.int .i32 r] 21)).drew := up_drew (ext_alloc wr (.cells #[.int .i32 r] 21))
      obtain ⟨x0, x1⟩ := cl_cells (hc1.keep (w' := (wr.alloc (.cells #[.int .i32 r] 21)).drew) fun q hq => yb.cell (by rw [hq, add_block]; exact had))
      have Y := Lib.hid yb
      have MA := Lib.hid (HM.out.below yb)
      have RA := Lib.hid (RS.out.ext yb)
      have RI : Hid (RdI32 (wr.alloc (.cells #[.int .i32 r] 21)).drew (wr.alloc (.cells #[.int .i32 r] 21)).drew.heap.size (some ⟨wr.heap.size, 0, none⟩) [r]) := Lib.hid ((show RdI32 (wr.alloc (.cells #[.int .i32 r] 21)) (wr.alloc (.cells #[.int .i32 r] 21)).heap.size (some ⟨wr.heap.size, 0, none⟩) [r] from Rd.new (enc := encI32) (size := 1) encI32_len wr 21 [r] (cs := #[.int .i32 r]) rfl rfl).ext (up_drew (Below.refl _ _)))
      have HC := Lib.hid hc1
      have HAD := Lib.hid had
      have NBL : Hid (¬ F' ad.block) := Lib.hid ((HR2.out.2.1.grow HR2.out.1 gr) ad rfl (by omega))
      have S7 : Hid (s.length ≤ 10000000) := Lib.hid (by have := SL.out; simp only at this; omega)
      have KI : Hid ((tellM (mkRetain Mk.new p []) ((clsOf f).take i)).ins.length ≤ 10000000) := Lib.hid (by have := KB.out.1; have := KL.out; omega)
      have KO : Hid (∀ o ∈ (tellM (mkRetain Mk.new p []) ((clsOf f).take i)).ins, o.s.length ≤ 10000000 ∧ o.r.length ≤ 100000000) := Lib.hid (fun o ho => ⟨(KB.out.2 o ho).1, by have := (KB.out.2 o ho).2.1; have := KL.out; omega⟩)
      have hlt' : (i : Int) < (n : Int) := by omega
      have hw2 : IntKind.i64.wrap ((i:Int) + 1) = (i : Int) + 1 := IntWalk.i64_in _ (by omega)
      clear hx hxm hxc hl1 hc1 had yb
      go_wp2_with (fail)
      go_region_held3 (fun w' => w'.cell? (ad.add (i * 2)) = some (.int .i32 r) ∧ w'.cell? { block := (ad.add (i * 2)).block, off := (ad.add (i * 2)).off + 1 } = some (.slice As s.length cs)) (go_keep) (first
        | (go_at_call 76
           with_reducible refine (mkInsert_any w.heap.size (some ⟨wr.heap.size, 0, none⟩) As 1 1 s.length cs [r] s ((wr.alloc (.cells #[.int .i32 r] 21)).drew) F' (tellM (mkRetain Mk.new p []) ((clsOf f).take i)) MA.out rfl rfl RI.out RA.out (by decide) S7.out KI.out KO.out).mono ?_
           rintro e w3 ⟨rfl, F3, hm3, g3⟩
           obtain ⟨y0, y1⟩ := cl_cells (HC.out.keep (w' := w3) fun q hq => by
             have hb := ((Grow.of Y.out).trans g3).block ad.block HAD.out NBL.out
             simp only [World.cell?]
             rw [show q.block = ad.block from by rw [hq, add_block], hb])))
      have gg := gr.trans ((Grow.of Y.out).trans g3)
      rw [← HT.out] at hm3
      have HM3 := Lib.hid hm3
      clear hm3
      go_wp2_with (fail)
      go_roundg (n - (i + 1))
      case measure => have := HG.out; omega
      case rel => exact ⟨i + 1, F3, by omega, rfl, by go_num, HM3.out, gg⟩
    · have hin : i = n := by omega
      subst hin
      have hlt' : ¬ (i : Int) < (i : Int) := by omega
      have hm := HM.out
      rw [List.take_of_length_le (by rw [HL.out]; exact Nat.le_refl _)] at hm
      have HMF : Hid (Mkr wr F' w.heap.size (pasteM p (clsOf f))) := Lib.hid hm
      have y34 := Lib.hid (y2.out.trans (gr.below (B := w.heap.size) low2.out y2.out.size))
      clear hm gr
      go_wp2_with (go_at_call 77; refine Hid.out ?_)
      refine Lib.hid ?_
      refine (mkOps_any _ wr F' (pasteM p (clsOf f)) HMF.out (by have := HBL.out; have := HL.out; omega) (fun o ho => by obtain ⟨h1, h2, h3⟩ := HB.out.2 o ho; have := HL.out; exact ⟨by omega, by omega, by omega⟩)).mono ?_
      intro e w5 hN
      have hN2 := hN.late y34.out
      obtain ⟨A2, c2, l2, rfl, hM⟩ := hN2
      go_wp2_with (fail)
      go_ret
      exact ⟨A2, c2, l2, rfl, hM⟩
set_option maxRecDepth 100000 in
set_option maxHeartbeats 1600000 in
theorem fragMay_any (s : Nat) (l : List Ky) (A : Option Addr) (n c : Nat) (f : List ClS) (w : World) (hn : n = f.length) (h : RdCl w w.heap.size A f) (hb : n ≤ 90000) (hS : Sch w s l)
    (hcs : ∀ x ∈ f, x.c.s.length ≤ 100000000 ∧ okVr x.c.s) (hT : Lib.Utf8Tabs 1 2 w) :
    Calls Tryz.prog 17 #[.pointer (some ⟨s, 0, none⟩), .slice A n c] w fun e w' => e = .returned (.int .i64 (mayD l (clsOf f ++ blankC))) ∧ Below w.heap.size w w' := by
  have N := Lib.hid hn
  have HR := Lib.hid h
  have HS := Lib.hid hS
  have HCS := Lib.hid hcs
  have HT := Lib.hid hT
  obtain ⟨md, hmd⟩ : ∃ X, mayD l (clsOf f ++ blankC) = X := ⟨_, rfl⟩
  rw [hmd]
  have HMD := Lib.hid hmd
  clear hn h hS hcs hT hmd
  go_enter Tryz.func17, Tryz.ntmps17
  go_wp2_with (go_at_call 63; refine Hid.out ?_)
  refine Lib.hid ?_
  refine (copyCells_any A n c f w N.out HR.out (by omega) (fun x hx => (HCS.out x hx).1)).mono ?_
  rintro e w1 ⟨A1, k1, L, rfl, hL, oL, pL, yL⟩
  have OL := Lib.hid oL
  have PL := Lib.hid pL
  have YL := Lib.hid yL
  have EL := Lib.hid hL
  clear oL pL yL hL
  go_wp2_with (go_at_call 72; refine Hid.out ?_)
  refine Lib.hid ?_
  refine (blank_any w1).mono ?_
  rintro e w2 ⟨A2, k2, B, rfl, hB, oB, pB, yB⟩
  have OB := Lib.hid oB
  have PB := Lib.hid pB
  have YB := Lib.hid yB
  have EB := Lib.hid hB
  have LEN : Hid (L.length = n ∧ B.length = 1) := Lib.hid ⟨by rw [← clsOf_len, EL.out, clsOf_len, ← N.out], by rw [← clsOf_len, hB]; rfl⟩
  have OL2 := Lib.hid (OL.out.below yB (Nat.le_refl _))
  have CB := Lib.hid (rd_cells oB pB)
  have YL2 : Hid (Below w.heap.size w w2) := Lib.hid (ext_trans YL.out yB)
  have PL2 : Hid (∀ z ∈ L, PartC w2 w.heap.size (.slice A1 L.length k1) z) := Lib.hid (fun z hz => (PL.out z hz).below yB)
  clear oB pB yB hB
  go_wp2_with (first
    | (at_builtin; refine app_cs (m := B) rfl (.tmp 7) (.tmp 8) rfl rfl OL2.out _ A2 k2 B.length rfl rfl CB.out.1.1 (by have := LEN.out; omega) YL2.out.size ?_; intro v' w3 hown' hgr hv'; obtain ⟨A3, k3, hv3, _, _⟩ := hown'.form; subst hv3)
    | (go_at_call 56; refine Hid.out ?_))
  refine Lib.hid ?_
  have y3 : Below w.heap.size w w3 := below_app YL2.out YL2.out.size OL2.out (Nat.le_refl _) hgr
  have Y3 := Lib.hid y3
  have LAP : Hid ((L ++ B).length = L.length + B.length) := Lib.hid List.length_append
  have EAP : Hid (clsOf (L ++ B) = clsOf f ++ blankC) := Lib.hid (by rw [← EL.out, ← EB.out]; unfold clsOf; rw [List.map_append])
  have hB0 : ∀ z ∈ B, z.c.s = [] := fun z hz => by
    have hm : z.c ∈ clsOf B := by unfold clsOf; exact List.mem_map_of_mem hz
    rw [EB.out] at hm
    have e : z.c = ⟨10, []⟩ := by simpa [blankC] using hm
    rw [e]
  have RA : Hid (RdCl w3 w3.heap.size A3 (L ++ B)) := Lib.hid ⟨hown'.rd ClS.enc_len, fun z hz => by
    rcases List.mem_append.1 hz with hz | hz
    · exact ((PL2.out z hz).app hgr hv').1.rd At.enc_len
    · rw [hB0 z hz]; exact Rd.nil⟩
  have QA : Hid (∀ z ∈ L ++ B, z.c.s.length ≤ 100000000 ∧ okVr z.c.s) := Lib.hid (fun z hz => by
    rcases List.mem_append.1 hz with hz | hz
    · have hm : z.c ∈ clsOf L := by unfold clsOf; exact List.mem_map_of_mem hz
      rw [EL.out] at hm
      obtain ⟨x, hx, e⟩ := List.mem_map.1 hm
      rw [← e]; exact HCS.out x hx
    · rw [hB0 z hz]; exact ⟨by simp, fun c hc => by cases hc⟩)
  obtain ⟨nA, hnA⟩ : ∃ X, (L ++ B).length = X := ⟨_, rfl⟩
  have NA := Lib.hid hnA
  rw [hnA] at LAP
  rw [← LAP.out]
  clear hown' hgr hv' y3 hB0 hnA
  refine (mayCells_any s l A3 nA k3 (L ++ B) w3 NA.out.symm RA.out (by have := LAP.out; have := LEN.out; omega) (HS.out.ext Y3.out) QA.out (Utf8Tabs_below HT.out Y3.out)).mono ?_
  rw [EAP.out, HMD.out]
  rintro e w4 ⟨rfl, y4⟩
  have yy := ext_trans Y3.out y4
  go_wp2_with (fail)
  go_ret
  exact ⟨rfl, yy⟩
/-- how many newlines -/
def linesC (f : List Cl) : Nat := (f.filter (fun c => c.r == 10)).length
theorem linesC_snoc (f : List Cl) (c : Cl) : linesC (f ++ [c]) = linesC f + (if (c.r == 10) = true then 1 else 0) := by
  unfold linesC
  rw [List.filter_append, List.length_append]
  cases h : (c.r == 10) <;> simp [h]
theorem linesC_le (f : List Cl) : linesC f ≤ f.length := by unfold linesC; exact List.length_filter_le _ _
set_option maxRecDepth 100000 in
set_option maxHeartbeats 800000 in
theorem part26_any (A : Option Addr) (n c : Nat) (f : List ClS) (w : World) (hn : n = f.length) (h : RdCs w w.heap.size A f) (hb : n ≤ 140737488355328) :
    Calls Tryz.prog 24 #[.slice A n c] w fun e w' => e = .returned (.tuple #[.int .i64 (linesC (clsOf f) : Int), .int .i64 (n : Int)]) ∧ ∃ d, w' = w.drewN d := by
  have N := Lib.hid hn
  have LF : Hid ((clsOf f).length = n) := Lib.hid (by rw [clsOf_len, hn])
  clear hn
  go_enter Tryz.func24, Tryz.ntmps24
  go_wp2_with (fail)
  go_loopg [2, 7] n (fun g av iv wr => ∃ (m a : Nat), m ≤ n ∧ g = n - m ∧ a = linesC ((clsOf f).take m) ∧ av = .int .i64 (a : Int) ∧ iv = .int .i64 (m : Int) ∧ ∃ d, wr = w.drewN d)
  case atStart => exact ⟨0, 0, by omega, rfl, rfl, rfl, rfl, 0, rfl⟩
  case round =>
    obtain ⟨m, a, hm, hg, ha, rfl, rfl, d, rfl⟩ := hrel
    have HG := Lib.hid hg
    have HA := Lib.hid ha
    have AB : a ≤ n := by have h1 := linesC_le ((clsOf f).take m); rw [← ha, List.length_take] at h1; omega
    clear hg ha
    by_cases hlt : m < n
    · have hl1 : m < f.length := by have := N.out; omega
      obtain ⟨ad, x, rfl, had, _, hx, hc1⟩ := h.el hl1
      have HT : Hid (linesC ((clsOf f).take (m + 1)) = a + (if (x.c.r == 10) = true then 1 else 0)) := Lib.hid (by
        rw [List.take_add_one, clsOf_at hx, HA.out]; exact linesC_snoc _ _)
      obtain ⟨⟨r, s⟩, As, cs⟩ := x
      simp only at HT
      obtain ⟨z0, z1⟩ := cl_cells hc1
      have hw2 : IntKind.i64.wrap ((m:Int) + 1) = (m : Int) + 1 := IntWalk.i64_in _ (by omega)
      have hw3 : IntKind.i64.wrap ((a:Int) + 1) = (a : Int) + 1 := IntWalk.i64_in _ (by omega)
      clear hx hl1 hc1 had
      by_cases hr : r = 10
      · subst hr
        have HT2 : Hid (linesC ((clsOf f).take (m + 1)) = a + 1) := Lib.hid HT.out
        go_wp2_with (fail)
        go_roundg (n - (m + 1))
        case measure => have := HG.out; omega
        case rel => exact ⟨m + 1, a + 1, by omega, rfl, HT2.out.symm, by go_num, by go_num, _, rfl⟩
      · have hr' : (r == 10) = false := beq_eq_false_iff_ne.2 hr
        have HT2 : Hid (linesC ((clsOf f).take (m + 1)) = a) := Lib.hid (by have := HT.out; rw [hr'] at this; exact this)
        go_wp2_with (fail)
        go_roundg (n - (m + 1))
        case measure => have := HG.out; omega
        case rel => exact ⟨m + 1, a, by omega, rfl, HT2.out.symm, rfl, by go_num, _, rfl⟩
    · have e : a = linesC (clsOf f) := by have := HA.out; rwa [List.take_of_length_le (by rw [LF.out]; omega)] at this
      clear HA
      go_wp2_with (fail)
      refine bodyPost_ret (v := .tuple #[.int .i64 (a : Int), .int .i64 (n : Int)]) (by simp [results, Tryz.results24, go_sem]) rfl ?_
      subst e
      exact ⟨rfl, _, rfl⟩
end Go.Proofs.YtfnkjcodcoehcaaGreatDoor
namespace Go.Proofs.YtfnkjcodcoehcaaGreatDoor
open Go.RowKit
set_option linter.unusedVariables false
set_option linter.unusedSimpArgs false

theorem Tryz.elOpD : Tryz.prog.elem 44 = 50 := by kernel_rfl
theorem Tryz.szOpD : (Tryz.prog.info? 50).map (·.size) = some 5 := by kernel_rfl
theorem size_opD (W : World) : (sizeOf 50).run Tryz.prog W = .ok 5 W := by
  cases h : Tryz.prog.info? 50 with
  | none => have := Tryz.szOpD; rw [h] at this; cases this
  | some i => have := Tryz.szOpD; rw [h] at this; simp at this; simp [sizeOf, typeInfo, h, this]
/-- cells at hand -/
structure DocAt (w : World) (A : Option Addr) (n c : Nat) (L : List ClS) : Prop where
  rd : RdCl w w.heap.size A L
  len : n = L.length
  cap : n ≤ c
  caps : ∀ z ∈ L, z.c.s.length ≤ z.cs ∧ z.cs ≤ maxLen
  vr : ∀ z ∈ L, z.c.s.length ≤ 1000000 ∧ okVr z.c.s
  b : n ≤ 20000
/-- ops at hand -/
structure OpsAt (w : World) (A : Option Addr) (n : Nat) (x : List OpS) : Prop where
  rd : RdOp w w.heap.size A x
  len : n = x.length
  ok : ∀ o ∈ x, okOp o.o
  b : n ≤ 1000000
theorem DocAt.ext {w w' : World} {A : Option Addr} {n c : Nat} {L : List ClS} (h : DocAt w A n c L) (y : Below w.heap.size w w') : DocAt w' A n c L := ⟨h.rd.ext y, h.len, h.cap, h.caps, h.vr, h.b⟩
theorem OpsAt.ext {w w' : World} {A : Option Addr} {n : Nat} {x : List OpS} (h : OpsAt w A n x) (y : Below w.heap.size w w') : OpsAt w' A n x := ⟨h.rd.ext y, h.len, h.ok, h.b⟩
theorem mem_cls {L : List ClS} {z : ClS} (h : z ∈ L) : z.c ∈ clsOf L := by unfold clsOf; exact List.mem_map_of_mem h
theorem cls_mem {L : List ClS} {c : Cl} (h : c ∈ clsOf L) : ∃ z ∈ L, z.c = c := by
  obtain ⟨z, hz, e⟩ := List.mem_map.1 h
  exact ⟨z, hz, e⟩
theorem DocAt.clen {w : World} {A : Option Addr} {n c : Nat} {L : List ClS} (h : DocAt w A n c L) : (clsOf L).length = n := by rw [clsOf_len, ← h.len]
theorem DocAt.take {w : World} {A : Option Addr} {n c k : Nat} {L : List ClS} (h : DocAt w A n c L) (hk : k ≤ n) : DocAt w A k c (L.take k) :=
  ⟨h.rd.take k, by rw [List.length_take, ← h.len]; omega, by have := h.cap; omega, fun z hz => h.caps z (List.mem_of_mem_take hz), fun z hz => h.vr z (List.mem_of_mem_take hz), by have := h.b; omega⟩
theorem DocAt.drop {w : World} {A A' : Option Addr} {n c k n' c' : Nat} {L : List ClS} (h : DocAt w A n c L) (hA : advS A c k 2 = A') (hk : k ≤ n) (hn : n - k = n') (hc : c - k = c') : DocAt w A' n' c' (L.drop k) :=
  ⟨h.rd.from hA (by rw [← h.len]; exact hk) (by rw [← h.len]; exact h.cap), by rw [List.length_drop, ← h.len]; omega, by have := h.cap; omega, fun z hz => h.caps z (List.mem_of_mem_drop hz), fun z hz => h.vr z (List.mem_of_mem_drop hz), by have := h.b; omega⟩
/-- cells of the call's own are at hand -/
theorem DocAt.made {w : World} {B B2 : Nat} {A : Option Addr} {c : Nat} {v : Value} {L : List ClS} (ho : OwCs w B (.slice A L.length c) L) (hp : ∀ z ∈ L, PartC w B2 v z) (hv : ∀ x ∈ clsOf L, x.s.length ≤ 1000000 ∧ okVr x.s) (hb : L.length ≤ 20000) : DocAt w A L.length c L := by
  obtain ⟨h1, h2, h3⟩ := rd_cells ho hp
  exact ⟨h1, rfl, h3, h2, fun z hz => hv _ (mem_cls hz), hb⟩
/-- cells behind cells, appended to a row of the call's own -/
theorem DocAt.append {wn wa : World} {B : Nat} {A A' A4 : Option Addr} {n c c' n4 c4 : Nat} {P G : List ClS} (ho : OwCs wa B (.slice A' (P ++ G).length c') (P ++ G)) (hp : ∀ z ∈ P, PartC wn B (.slice A n c) z) (hg : DocAt wa A4 n4 c4 G) (hv : ∀ x ∈ clsOf P, x.s.length ≤ 1000000 ∧ okVr x.s)
    (hgr : wn.grownBy wa (wb (.slice A n c))) (hv' : Value.slice A' (P ++ G).length c' = .slice A n c ∧ wa = wn ∨ wb (.slice A' (P ++ G).length c') = wb (.slice A n c) ∨ wb (.slice A' (P ++ G).length c') = some wn.heap.size) (hb : (P ++ G).length ≤ 20000) : DocAt wa A' (P ++ G).length c' (P ++ G) := by
  have hP : ∀ z ∈ P, RdAt wa wa.heap.size z.As z.c.s ∧ z.c.s.length ≤ z.cs ∧ z.cs ≤ maxLen := fun z hz => by
    have h1 := ((hp z hz).app hgr hv').1
    refine ⟨h1.rd At.enc_len, ?_⟩
    obtain ⟨_, _, hv, hc1, hc2⟩ := h1.form
    injection hv with _ _ hcc
    subst hcc
    exact ⟨hc1, hc2⟩
  refine ⟨⟨ho.rd ClS.enc_len, fun z hz => ?_⟩, rfl, ho.cap.1, fun z hz => ?_, fun z hz => ?_, hb⟩
  · rcases List.mem_append.1 hz with hz | hz
    · exact (hP z hz).1
    · exact hg.rd.2 z hz
  · rcases List.mem_append.1 hz with hz | hz
    · exact (hP z hz).2
    · exact hg.caps z hz
  · rcases List.mem_append.1 hz with hz | hz
    · exact hv _ (mem_cls hz)
    · exact hg.vr z hz
/-- what a call answers that makes cells -/
def NewDoc (o : List Cl) (w : World) (e : Ending) (w' : World) : Prop :=
  ∃ A c L, e = .returned (.slice A L.length c) ∧ clsOf L = o ∧ DocAt w' A L.length c L ∧ Below w.heap.size w w'
theorem NewCls.doc {o : List Cl} {w w' : World} {e : Ending} (h : NewCls o w e w') (hv : ∀ x ∈ o, x.s.length ≤ 1000000 ∧ okVr x.s) (hb : o.length ≤ 20000) : NewDoc o w e w' := by
  obtain ⟨A, c, L, he, hL, ho, hp, y⟩ := h
  exact ⟨A, c, L, he, hL, DocAt.made ho hp (by rw [hL]; exact hv) (by rw [← clsOf_len, hL]; exact hb), y⟩
/-- what a call answers that makes ops -/
def NewOp (o : List Opd) (w : World) (e : Ending) (w' : World) : Prop :=
  ∃ A c x, e = .returned (.slice A x.length c) ∧ osOf x = o ∧ OpsAt w' A x.length x ∧ Below w.heap.size w w'
theorem NewOps.op {m : Mk} {us : List Un} {K S : Nat} {w w' : World} {e : Ending} (h : NewOps (mkOps m) w e w') (ht : Told m us) (hu : ∀ u ∈ us, okUn u) (hB : MkB m K S) (hK : K ≤ 900000) (hS : S ≤ 100000000) : NewOp (mkOps m) w e w' := by
  obtain ⟨A, c, x, he, hx, ho, hp, y⟩ := h
  obtain ⟨h1, h2⟩ := ok_made hx ht hu hB (by omega) hS
  exact ⟨A, c, x, he, hx, ⟨rd_made ho hp, rfl, h1, by omega⟩, y⟩
section
variable {w : World} {A B : Option Addr} {n c n2 c2 : Nat} {L M : List ClS}
theorem mayDoc {s : Nat} {l : List Ky} (h : DocAt w A n c L) (hS : Sch w s l) (hT : Lib.Utf8Tabs 1 2 w) {r : Int} (hr : mayD l (clsOf L) = r) : Calls Tryz.prog 56 #[.pointer (some ⟨s, 0, none⟩), .slice A n c] w fun e w' => e = .returned (.int .i64 r) ∧ Below w.heap.size w w' := by
  have h1 := mayCells_any s l A n c L w h.len h.rd (by have := h.b; omega) hS (fun x hx => ⟨by have := (h.vr x hx).1; omega, (h.vr x hx).2⟩) hT
  rw [hr] at h1
  exact h1
theorem cutC_mem {d : List Cl} {i j : Int} {x : Cl} (h : x ∈ cutC d i j) : x ∈ d := by
  unfold cutC at h
  split at h
  · cases h
  · exact List.mem_of_mem_drop (List.mem_of_mem_take h)
theorem cutC_len (d : List Cl) (i j : Int) : (cutC d i j).length ≤ d.length := by
  unfold cutC
  split
  · exact Nat.zero_le _
  · rw [List.length_take, List.length_drop]; omega
theorem fragDoc {s : Nat} {l : List Ky} (h : DocAt w A n c L) (hS : Sch w s l) (hT : Lib.Utf8Tabs 1 2 w) {r : Int} (hr : mayD l (clsOf L ++ [⟨10, []⟩]) = r) : Calls Tryz.prog 17 #[.pointer (some ⟨s, 0, none⟩), .slice A n c] w fun e w' => e = .returned (.int .i64 r) ∧ Below w.heap.size w w' := by
  have h1 := fragMay_any s l A n c L w h.len h.rd (by have := h.b; omega) hS (fun x hx => ⟨by have := (h.vr x hx).1; omega, (h.vr x hx).2⟩) hT
  rw [show clsOf L ++ blankC = clsOf L ++ [⟨10, []⟩] from rfl, hr] at h1
  exact h1
end
end Go.Proofs.YtfnkjcodcoehcaaGreatDoor
