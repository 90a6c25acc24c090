/- Merged texts: Paste26, OpKnown, Known26, Great18. -/
import Derived.Deep.RegionHeld3
import Derived.Deep.RegionHeldLaw
import Derived.Test.YtfnkjcodcoehcaaGreatDoorP24
import Derived.Test.YtfnkjcodcoehcaaGreatDoorP25
import Derived.Test.YtfnkjcodcoehcaaGreatDoorP26
import Derived.Test.YtfnkjcodcoehcaaGreatDoorP29
import Derived.Test.YtfnkjcodcoehcaaGreatDoorP22
import Derived.Test.YtfnkjcodcoehcaaGreatDoorP9
namespace Go.Proofs.YtfnkjcodcoehcaaGreatDoor
open Go.RowKit
set_option linter.unusedVariables false
set_option linter.unusedSimpArgs false

/-- what the document pastes, as ops -/
def pasteOs (p : Nat) (f : List Cl) : List Opd := (if 0 < p then [opR p []] else []) ++ f.map (fun c => opI [c.r] c.s)
theorem tell_opI (m : Mk) (r : List Int) (s : List At) : tellO m (opI r s) = mkInsert m r s := by simp [tellO, opI]
theorem tell_opR (m : Mk) (n : Int) (p : List Ch) : tellO m (opR n p) = mkRetain m n p := by simp [tellO, opR]
theorem tell_inss (f : List Cl) : ∀ m : Mk, (f.map (fun c => opI [c.r] c.s)).foldl tellO m = tellM m f := by
  induction f with
  | nil => intro m; rfl
  | cons c f ih => intro m; rw [List.map_cons, List.foldl_cons, tell_opI, ih]; rfl
theorem pasteOs_of (p : Nat) (f : List Cl) : mkOps (ofM (pasteOs p f)) = mkOps (pasteM p f) := by
  unfold pasteOs pasteM ofM
  rw [List.foldl_append, tell_inss]
  by_cases hp : 0 < p
  · rw [if_pos hp, List.foldl_cons, List.foldl_nil, tell_opR]
  · rw [if_neg hp, List.foldl_nil]
    unfold mkRetain
    rw [if_pos (by omega)]
theorem pasteOs_isOp (p : Nat) (f : List Cl) : ∀ o ∈ pasteOs p f, isOp o := fun o ho => by
  unfold pasteOs at ho
  rcases List.mem_append.1 ho with ho | ho
  · split at ho
    · rw [List.mem_singleton] at ho; subst ho; exact isOp_opR (by omega)
    · cases ho
  · obtain ⟨c, _, rfl⟩ := List.mem_map.1 ho
    exact isOp_opI (by simp)
/-- an insert of one rune set behind a row of ops -/
theorem push_ins {w wr W1 w9 : World} {ov v9 : Value} {D : List OpS} {r : Int} {s : List At} {As : Option Addr} {cs : Nat} {O : Obj} (row : RowF wr (fun _ => False) w.heap.size ov D) (y : Below w.heap.size w wr) (hs : RdAt w w.heap.size As s) (y1 : Below wr.heap.size wr W1)
    (ho : OwOs w9 w.heap.size v9 (D ++ [⟨opI [r] s, some ⟨W1.heap.size, 0, none⟩, 1, As, cs, none, 0⟩])) (g : ((W1.alloc (.cells #[.int .i32 r] 21)).alloc O).grownBy w9 (wb ov))
    (hv : v9 = ov ∧ w9 = ((W1.alloc (.cells #[.int .i32 r] 21)).alloc O) ∨ wb v9 = wb ov ∨ wb v9 = some ((W1.alloc (.cells #[.int .i32 r] 21)).alloc O).heap.size) :
    RowF w9 (fun _ => False) w.heap.size v9 (D ++ [⟨opI [r] s, some ⟨W1.heap.size, 0, none⟩, 1, As, cs, none, 0⟩]) ∧ Below w.heap.size w w9 := by
  have y2 := ext_trans y1 (ext_alloc W1 (.cells #[.int .i32 r] 21))
  have y3 := ext_trans y2 (ext_alloc _ O)
  have yy := ext_trans y y3
  have wl := row.own.wb_lt
  refine ⟨(row.ext y3).app (fun x hx => ?_) ho g hv, yy.grown g yy.size (fun k hk => (wl k hk).1)⟩
  rw [List.mem_singleton] at hx
  subst hx
  have ri : RdI32 (W1.alloc (.cells #[.int .i32 r] 21)) (W1.alloc (.cells #[.int .i32 r] 21)).heap.size (some ⟨W1.heap.size, 0, none⟩) [r] := Rd.new (enc := encI32) (size := 1) encI32_len W1 21 [r] (cs := #[.int .i32 r]) rfl rfl
  refine ⟨⟨ri.ext (ext_alloc _ O), fun ad e hl hk => ?_⟩, ⟨hs.ext yy, fun ad e hl hk => ?_⟩, ⟨Rd.nil, OffF.zero⟩⟩
  · injection e with e
    subst e
    rcases hk with hk | hk
    · exact hk
    · have := (wl _ hk).2
      have := y1.size
      simp only at *
      omega
  · obtain ⟨ad', e', hb, _⟩ := hs hl
    have e2 := e'.symm.trans e
    injection e2 with e2
    subst e2
    rcases hk with hk | hk
    · exact hk
    · have := (wl _ hk).1; omega
theorem paste_szN {D : List OpS} {p : Nat} {f : List Cl} (h : osOf D = pasteOs p f) (hf : f.length ≤ 100000) (hs : ∀ c ∈ f, c.s.length ≤ 1000000) :
    szN D ≤ 1000000 ∧ (∀ o ∈ D, isOp o.o) ∧ ∀ o ∈ D, o.o.s.length ≤ 1000000 ∧ o.o.p.length ≤ 1000000 := by
  have e : ∀ D : List OpS, szN D = ((osOf D).map (fun o => 1 + o.r.length)).sum := fun D => by
    unfold szN osOf; rw [List.map_map]; rfl
  have e2 : ∀ f : List Cl, ((f.map (fun c => opI [c.r] c.s)).map (fun o => 1 + o.r.length)).sum = 2 * f.length := fun f => by
    induction f with
    | nil => rfl
    | cons c f ih => rw [List.map_cons, List.map_cons, List.sum_cons, ih]; simp [opI]; omega
  refine ⟨?_, fun o ho => pasteOs_isOp p f o.o (by rw [← h]; unfold osOf; exact List.mem_map_of_mem ho), fun o ho => ?_⟩
  · rw [e, h]
    unfold pasteOs
    rw [List.map_append, List.sum_append, e2]
    split <;> simp [opR] <;> omega
  · have hm : o.o ∈ pasteOs p f := by rw [← h]; unfold osOf; exact List.mem_map_of_mem ho
    unfold pasteOs at hm
    rcases List.mem_append.1 hm with hm | hm
    · split at hm
      · rw [List.mem_singleton] at hm; rw [hm]; exact ⟨Nat.zero_le _, Nat.zero_le _⟩
      · cases hm
    · obtain ⟨c, hc, he⟩ := List.mem_map.1 hm
      rw [← he]; exact ⟨hs c hc, Nat.zero_le _⟩
set_option maxRecDepth 100000 in
set_option maxHeartbeats 3200000 in
theorem paste26_any (p : Nat) (A : Option Addr) (n c : Nat) (f : List ClS) (w : World) (hn : n = f.length) (hr : RdCl w w.heap.size A f) (hb : n ≤ 100000) (hp : p ≤ 1099511627776) (hs : ∀ x ∈ f, x.c.s.length ≤ 1000000) :
    Calls Tryz.prog 23 #[.int .i64 (p : Int), .slice A n c] w (NewOps (mkOps (ofM (pasteOs p (clsOf f)))) w) := by
  have N := Lib.hid hn
  have HR := Lib.hid hr
  have HS := Lib.hid hs
  have HB := Lib.hid hb
  clear hn hr hs
  have FIN : Hid (∀ {D : List OpS} {m : Nat}, osOf D = (if 0 < p then [opR (p : Int) []] else []) ++ (clsOf (f.take m)).map (fun c => opI [c.r] c.s) → m = n → osOf D = pasteOs p (clsOf f)) := Lib.hid (fun h1 hm => by
    rw [h1, hm, N.out, List.take_length]; rfl)
  have LEN : Hid (∀ {D : List OpS} {m : Nat}, m ≤ n → osOf D = (if 0 < p then [opR (p : Int) []] else []) ++ (clsOf (f.take m)).map (fun c => opI [c.r] c.s) → D.length ≤ m + 1) := Lib.hid (fun hm h1 => by
    have h2 := congrArg List.length h1
    unfold osOf clsOf at h2
    rw [List.length_append, List.length_map, List.length_map, List.length_map, List.length_take] at h2
    split at h2 <;> simp at h2 <;> omega)
  go_enter Tryz.func23, Tryz.ntmps23
  by_cases hp0 : 0 < p
  · have hp1 : (0 : Int) < (p : Int) := by omega
    have E0 : Hid ((if 0 < p then [opR (p : Int) []] else []) = [opR (p : Int) []]) := Lib.hid (if_pos hp0)
    go_wp2_with ((at_builtin; refine app_os (l := []) (m := [⟨opR (p : Int) [], none, 0, none, 0, none, 0⟩]) rfl (.tmp 9) (.tmp 12) rfl rfl (by exact Ow.nil _ w.heap.size) _ _ 1 1 rfl rfl (by exact rd_one (enc := OpS.enc) (size := 5) w _ (⟨opR (p : Int) [], none, 0, none, 0, none, 0⟩ : OpS) rfl) (by simp) (by exact (ext_alloc _ _).size) ?_; intro v1 w1 ho1 g1 hv1))
    have R0 : Hid (RowF w1 (fun _ => False) w.heap.size v1 [⟨opR (p : Int) [], none, 0, none, 0, none, 0⟩]) := Lib.hid ((RowF.nil _ _ w.heap.size).app (M := [⟨opR (p : Int) [], none, 0, none, 0, none, 0⟩]) (fun x hx => by
      rw [List.mem_singleton] at hx; subst hx
      exact ⟨⟨Rd.nil, OffF.zero⟩, ⟨Rd.nil, OffF.zero⟩, ⟨Rd.nil, OffF.zero⟩⟩) ho1 g1 hv1)
    have Y0 : Hid (Below w.heap.size w w1) := Lib.hid ((ext_alloc w _).grown g1 (ext_alloc w _).size (fun k hk => by cases hk))
    have O0 : Hid (osOf [(⟨opR (p : Int) [], none, 0, none, 0, none, 0⟩ : OpS)] = (if 0 < p then [opR (p : Int) []] else []) ++ (clsOf (f.take 0)).map (fun c => opI [c.r] c.s)) := Lib.hid (by rw [E0.out]; rfl)
    clear ho1 g1 hv1 E0
    go_wp2_with (fail)
    go_loopg [5, 6] n (fun g ov iv wr => ∃ (m : Nat) (D : List OpS), m ≤ n ∧ g = n - m ∧ iv = .int .i64 (m : Int) ∧ RowF wr (fun _ => False) w.heap.size ov D ∧ Hid (osOf D = (if 0 < p then [opR (p : Int) []] else []) ++ (clsOf (f.take m)).map (fun c => opI [c.r] c.s)) ∧ Below w.heap.size w wr)
    case atStart => exact ⟨0, _, Nat.zero_le _, rfl, rfl, R0.out, O0, Y0.out⟩
    case round =>
      clear R0 Y0 O0 hp1
      obtain ⟨m, D, hm, hg, rfl, hrow, HD, y⟩ := hrel
      have HG := Lib.hid hg
      have HRW := Lib.hid hrow
      clear hg hrow
      by_cases hlt : m < n
      · have hl1 : m < f.length := by have := N.out; omega
        have hlt' : (m : Int) < (n : Int) := by omega
        obtain ⟨ad, x, rfl, hd0, hd1, hx1, hc0⟩ := (HR.out.ext y).1.el hl1
        have HX := Lib.hid (clsOf_at hx1)
        have g2 := HR.out.2 x (List.mem_of_getElem? hx1)
        have v4 := HS.out x (List.mem_of_getElem? hx1)
        have HAD : Hid (ad.block < w.heap.size) := Lib.hid (by
          obtain ⟨ad', e', hb', _⟩ := HR.out.1 (by omega)
          injection e' with e'; subst e'; exact hb')
        obtain ⟨⟨r, s⟩, As, cs⟩ := x
        simp only at g2 v4
        have HC := Lib.hid hc0
        have G2 := Lib.hid g2
        have DL := Lib.hid (LEN.out hm HD.out)
        have hw2 : IntKind.i64.wrap ((m:Int) + 1) = (m : Int) + 1 := IntWalk.i64_in _ (by omega)
        clear hc0 hd1 hx1 g2 hd0
        have opb : ∀ {W : World}, Below wr.heap.size wr W → W.cell? (ad.add (m * 2)) = some (.int .i32 r) ∧ W.cell? { block := (ad.add (m * 2)).block, off := (ad.add (m * 2)).off + 1 } = some (.slice As s.length cs) := fun {W} yw =>
          cl_cells (HC.out.keep (w' := W) fun q hq => yw.cell (by rw [hq, add_block]; have := HAD.out; have := y.size; omega))
        have YW : Hid (Below wr.heap.size wr wr.drew) := Lib.hid (up_drew (Below.refl _ _))
        have YB : Hid (Below wr.heap.size wr wr) := Lib.hid (Below.refl _ _)
        have Cw := opb YB.out
        go_wp2_with (fail)
        go_region_held_law (fun w' => w'.cell? (ad.add (m * 2)) = some (.int .i32 r) ∧ w'.cell? { block := (ad.add (m * 2)).block, off := (ad.add (m * 2)).off + 1 } = some (.slice As s.length cs)) (first | exact C9 | exact opb (by repeat (first | exact YW.out | exact YB.out | refine ext_trans ?_ (ext_alloc _ _) | refine up_drew ?_))) (first
          | (refine step_os (l := D) (m := [(⟨opI [r] s, some ⟨wr.heap.size, 0, none⟩, 1, As, cs, none, 0⟩ : OpS)]) rfl (.tmp 20) (.tmp 33) (by rfl) (by rfl) (HRW.out.own.below (ext_trans (ext_trans YW.out (ext_alloc _ _)) (ext_alloc _ _)) (Nat.le_refl _)) _ _ 1 1 (by rfl) rfl (rd_one_at (enc := OpS.enc) (size := 5) _ _ (⟨opI [r] s, some ⟨wr.heap.size, 0, none⟩, 1, As, cs, none, 0⟩ : OpS) rfl (by simp)) (by have := DL.out; simp only [List.length_singleton]; omega) (Nat.le_trans y.size (ext_trans (ext_trans YW.out (ext_alloc _ _)) (ext_alloc _ _)).size) ?_
             intro v9 w9 ho9 hgr9 hw9
             have RR := push_ins HRW.out y G2.out YW.out ho9 hgr9 hw9
             have R1 := Lib.hid RR.1
             have R2 := Lib.hid RR.2
             have C9 : w9.cell? (ad.add (m * 2)) = some (.int .i32 r) ∧ w9.cell? { block := (ad.add (m * 2)).block, off := (ad.add (m * 2)).off + 1 } = some (.slice As s.length cs) := cl_cells (HC.out.keep (w' := w9) fun q hq => (R2.out.cell (by rw [hq, add_block]; exact HAD.out)).trans (y.cell (by rw [hq, add_block]; exact HAD.out)).symm)
             clear ho9 hgr9 hw9 RR))
        all_goals
          go_wp2_with (fail)
          go_roundg (n - (m + 1))
        all_goals first
          | (have := HG.out; omega)
          | (refine ⟨m + 1, D ++ [⟨opI [r] s, some ⟨wr.heap.size, 0, none⟩, 1, As, cs, none, 0⟩], by omega, rfl, by go_num, R1.out, Lib.hid ?_, R2.out⟩
             rw [show clsOf (f.take (m + 1)) = clsOf (f.take m) ++ [⟨r, s⟩] by rw [clsOf_take, clsOf_take, List.take_add_one, HX.out]; rfl, List.map_append, ← List.append_assoc, ← HD.out]
             unfold osOf; rw [List.map_append]; rfl)
      · have hml : m = n := by omega
        have hlt' : ¬ (m : Int) < (n : Int) := by omega
        have EO := Lib.hid (FIN.out HD.out hml)
        have DL := Lib.hid (LEN.out hm HD.out)
        clear HD
        obtain ⟨A1, k1, hv1, hk1, _⟩ := HRW.out.own.form
        subst hv1
        have RD : Hid (RdOp wr wr.heap.size A1 D) := Lib.hid ⟨HRW.out.own.rd OpS.enc_len, fun z hz => ⟨(HRW.out.parts z hz).1.1, (HRW.out.parts z hz).2.1.1, (HRW.out.parts z hz).2.2.1⟩⟩
        have CA : Hid (D.length ≤ k1) := Lib.hid hk1
        have SZ : Hid (szN D ≤ 1000000 ∧ (∀ o ∈ D, isOp o.o) ∧ ∀ o ∈ D, o.o.s.length ≤ 1000000 ∧ o.o.p.length ≤ 1000000) := Lib.hid (paste_szN (EO.out) (by rw [clsOf_len, ← N.out]; exact HB.out) (fun c hc => by obtain ⟨z, hz, rfl⟩ := cls_mem hc; exact HS.out z hz))
        go_wp2_with (go_at_call 79; refine Hid.out ?_)
        refine Lib.hid ?_
        refine (of16_any A1 D.length k1 D wr rfl CA.out RD.out SZ.out.2.1 SZ.out.1 SZ.out.2.2).mono ?_
        rw [EO.out]
        intro e w5 hN
        have hN2 := hN.late y
        obtain ⟨A2, c2, l2, rfl, hM⟩ := hN2
        have HM := Lib.hid hM
        clear hM hN
        go_wp2_with (fail)
        go_ret
        exact ⟨A2, c2, l2, rfl, HM.out⟩
  · have hp1 : ¬ (0 : Int) < (p : Int) := by omega
    have R0 : Hid (RowF w (fun _ => False) w.heap.size (.slice none 0 0) []) := Lib.hid (RowF.nil _ _ w.heap.size)
    have Y0 : Hid (Below w.heap.size w w) := Lib.hid (Below.refl _ _)
    have O0 : Hid (osOf [] = (if 0 < p then [opR (p : Int) []] else []) ++ (clsOf (f.take 0)).map (fun c => opI [c.r] c.s)) := Lib.hid (by rw [if_neg hp0]; rfl)
    go_wp2_with (fail)
    go_loopg [5, 6] n (fun g ov iv wr => ∃ (m : Nat) (D : List OpS), m ≤ n ∧ g = n - m ∧ iv = .int .i64 (m : Int) ∧ RowF wr (fun _ => False) w.heap.size ov D ∧ Hid (osOf D = (if 0 < p then [opR (p : Int) []] else []) ++ (clsOf (f.take m)).map (fun c => opI [c.r] c.s)) ∧ Below w.heap.size w wr)
    case atStart => exact ⟨0, _, Nat.zero_le _, rfl, rfl, R0.out, O0, Y0.out⟩
    case round =>
      clear R0 Y0 O0 hp1
      obtain ⟨m, D, hm, hg, rfl, hrow, HD, y⟩ := hrel
      have HG := Lib.hid hg
      have HRW := Lib.hid hrow
      clear hg hrow
      by_cases hlt : m < n
      · have hl1 : m < f.length := by have := N.out; omega
        have hlt' : (m : Int) < (n : Int) := by omega
        obtain ⟨ad, x, rfl, hd0, hd1, hx1, hc0⟩ := (HR.out.ext y).1.el hl1
        have HX := Lib.hid (clsOf_at hx1)
        have g2 := HR.out.2 x (List.mem_of_getElem? hx1)
        have v4 := HS.out x (List.mem_of_getElem? hx1)
        have HAD : Hid (ad.block < w.heap.size) := Lib.hid (by
          obtain ⟨ad', e', hb', _⟩ := HR.out.1 (by omega)
          injection e' with e'; subst e'; exact hb')
        obtain ⟨⟨r, s⟩, As, cs⟩ := x
        simp only at g2 v4
        have HC := Lib.hid hc0
        have G2 := Lib.hid g2
        have DL := Lib.hid (LEN.out hm HD.out)
        have hw2 : IntKind.i64.wrap ((m:Int) + 1) = (m : Int) + 1 := IntWalk.i64_in _ (by omega)
        clear hc0 hd1 hx1 g2 hd0
        have opb : ∀ {W : World}, Below wr.heap.size wr W → W.cell? (ad.add (m * 2)) = some (.int .i32 r) ∧ W.cell? { block := (ad.add (m * 2)).block, off := (ad.add (m * 2)).off + 1 } = some (.slice As s.length cs) := fun {W} yw =>
          cl_cells (HC.out.keep (w' := W) fun q hq => yw.cell (by rw [hq, add_block]; have := HAD.out; have := y.size; omega))
        have YW : Hid (Below wr.heap.size wr wr.drew) := Lib.hid (up_drew (Below.refl _ _))
        have YB : Hid (Below wr.heap.size wr wr) := Lib.hid (Below.refl _ _)
        have Cw := opb YB.out
        go_wp2_with (fail)
        go_region_held_law (fun w' => w'.cell? (ad.add (m * 2)) = some (.int .i32 r) ∧ w'.cell? { block := (ad.add (m * 2)).block, off := (ad.add (m * 2)).off + 1 } = some (.slice As s.length cs)) (first | exact C9 | exact opb (by repeat (first | exact YW.out | exact YB.out | refine ext_trans ?_ (ext_alloc _ _) | refine up_drew ?_))) (first
          | (refine step_os (l := D) (m := [(⟨opI [r] s, some ⟨wr.heap.size, 0, none⟩, 1, As, cs, none, 0⟩ : OpS)]) rfl (.tmp 20) (.tmp 33) (by rfl) (by rfl) (HRW.out.own.below (ext_trans (ext_trans YW.out (ext_alloc _ _)) (ext_alloc _ _)) (Nat.le_refl _)) _ _ 1 1 (by rfl) rfl (rd_one_at (enc := OpS.enc) (size := 5) _ _ (⟨opI [r] s, some ⟨wr.heap.size, 0, none⟩, 1, As, cs, none, 0⟩ : OpS) rfl (by simp)) (by have := DL.out; simp only [List.length_singleton]; omega) (Nat.le_trans y.size (ext_trans (ext_trans YW.out (ext_alloc _ _)) (ext_alloc _ _)).size) ?_
             intro v9 w9 ho9 hgr9 hw9
             have RR := push_ins HRW.out y G2.out YW.out ho9 hgr9 hw9
             have R1 := Lib.hid RR.1
             have R2 := Lib.hid RR.2
             have C9 : w9.cell? (ad.add (m * 2)) = some (.int .i32 r) ∧ w9.cell? { block := (ad.add (m * 2)).block, off := (ad.add (m * 2)).off + 1 } = some (.slice As s.length cs) := cl_cells (HC.out.keep (w' := w9) fun q hq => (R2.out.cell (by rw [hq, add_block]; exact HAD.out)).trans (y.cell (by rw [hq, add_block]; exact HAD.out)).symm)
             clear ho9 hgr9 hw9 RR))
        all_goals
          go_wp2_with (fail)
          go_roundg (n - (m + 1))
        all_goals first
          | (have := HG.out; omega)
          | (refine ⟨m + 1, D ++ [⟨opI [r] s, some ⟨wr.heap.size, 0, none⟩, 1, As, cs, none, 0⟩], by omega, rfl, by go_num, R1.out, Lib.hid ?_, R2.out⟩
             rw [show clsOf (f.take (m + 1)) = clsOf (f.take m) ++ [⟨r, s⟩] by rw [clsOf_take, clsOf_take, List.take_add_one, HX.out]; rfl, List.map_append, ← List.append_assoc, ← HD.out]
             unfold osOf; rw [List.map_append]; rfl)
      · have hml : m = n := by omega
        have hlt' : ¬ (m : Int) < (n : Int) := by omega
        have EO := Lib.hid (FIN.out HD.out hml)
        have DL := Lib.hid (LEN.out hm HD.out)
        clear HD
        obtain ⟨A1, k1, hv1, hk1, _⟩ := HRW.out.own.form
        subst hv1
        have RD : Hid (RdOp wr wr.heap.size A1 D) := Lib.hid ⟨HRW.out.own.rd OpS.enc_len, fun z hz => ⟨(HRW.out.parts z hz).1.1, (HRW.out.parts z hz).2.1.1, (HRW.out.parts z hz).2.2.1⟩⟩
        have CA : Hid (D.length ≤ k1) := Lib.hid hk1
        have SZ : Hid (szN D ≤ 1000000 ∧ (∀ o ∈ D, isOp o.o) ∧ ∀ o ∈ D, o.o.s.length ≤ 1000000 ∧ o.o.p.length ≤ 1000000) := Lib.hid (paste_szN (EO.out) (by rw [clsOf_len, ← N.out]; exact HB.out) (fun c hc => by obtain ⟨z, hz, rfl⟩ := cls_mem hc; exact HS.out z hz))
        go_wp2_with (go_at_call 79; refine Hid.out ?_)
        refine Lib.hid ?_
        refine (of16_any A1 D.length k1 D wr rfl CA.out RD.out SZ.out.2.1 SZ.out.1 SZ.out.2.2).mono ?_
        rw [EO.out]
        intro e w5 hN
        have hN2 := hN.late y
        obtain ⟨A2, c2, l2, rfl, hM⟩ := hN2
        have HM := Lib.hid hM
        clear hM hN
        go_wp2_with (fail)
        go_ret
        exact ⟨A2, c2, l2, rfl, HM.out⟩
theorem len_ops {x : List OpS} (h : ∀ o ∈ x, o.o.r.length ≤ 100000 ∧ o.o.s.length ≤ 64 ∧ o.o.p.length ≤ 64) : ∀ o ∈ x, o.o.r.length ≤ 100000000 ∧ o.o.s.length ≤ 100000000 ∧ o.o.p.length ≤ 100000000 := fun o ho => by
  obtain ⟨a, b, c⟩ := h o ho; omega
theorem len_ops2 {x z : List OpS} (e : osOf z = osOf x) (h : ∀ o ∈ x, o.o.r.length ≤ 100000 ∧ o.o.s.length ≤ 64 ∧ o.o.p.length ≤ 64) : ∀ o ∈ z, o.o.r.length ≤ 100000000 ∧ o.o.s.length ≤ 100000000 ∧ o.o.p.length ≤ 100000000 := fun o ho => by
  have hm : o.o ∈ osOf z := by unfold osOf; exact List.mem_map_of_mem ho
  rw [e] at hm
  obtain ⟨y, hy, he⟩ := List.mem_map.1 hm
  rw [← he]
  exact len_ops h y hy
section
variable {w : World} {A : Option Addr} {n c : Nat} {L : List ClS}
theorem cut_vr (h : DocAt w A n c L) (i j : Int) : (∀ x ∈ cutC (clsOf L) i j, x.s.length ≤ 1000000 ∧ okVr x.s) ∧ (cutC (clsOf L) i j).length ≤ 20000 := by
  refine ⟨fun x hx => ?_, ?_⟩
  · obtain ⟨z, hz, rfl⟩ := cls_mem (cutC_mem hx)
    exact h.vr z hz
  · have := cutC_len (clsOf L) i j
    have := h.clen
    have := h.b
    omega
theorem cutWr (h : DocAt w A n c L) (i j : Int) : Calls Tryz.prog 16 #[.slice A n c, .int .i64 i, .int .i64 j] w (NewWr (cutC (clsOf L) i j) w) :=
  (cut_any A n c L i j w h.len h.cap h.rd (by have := h.b; omega) (fun x hx => by have := (h.vr x hx).1; omega)).mono fun e w' hN => hN.wr (cut_vr h i j).1 (cut_vr h i j).2
theorem cut26D (h : DocAt w A n c L) (i j : Int) : Calls Tryz.prog 20 #[.slice A n c, .int .i64 i, .int .i64 j] w (NewDoc (cutC (clsOf L) i j) w) :=
  (cut26_any A n c L i j w h.len h.cap h.rd (by have := h.b; omega) (fun x hx => by have := (h.vr x hx).1; omega)).mono fun e w' hN => hN.doc (cut_vr h i j).1 (cut_vr h i j).2
theorem pasteWr (h : DocAt w A n c L) (hs : ∀ x ∈ clsOf L, x.s.length ≤ 64) (p : Int) : Calls Tryz.prog 21 #[.int .i64 p, .slice A n c] w fun e w' =>
    ∃ A c x, e = .returned (.slice A x.length c) ∧ osOf x = mkOps (pasteM p (clsOf L)) ∧ WrO w' w.heap.size A x.length c x ∧ RdOp w' w'.heap.size A x ∧ (x.length ≤ n + 3 ∧ ∀ o ∈ x, o.o.r.length ≤ 100000 ∧ o.o.s.length ≤ 64 ∧ o.o.p.length ≤ 64) ∧ Below w.heap.size w w' := by
  refine (paste_any p A n c L w h.len h.rd (by have := h.b; omega) (fun x hx => hs _ (mem_cls hx))).mono ?_
  rintro e w' ⟨A', c', x, he, hx, ho, hp, y⟩
  obtain ⟨b1, b2⟩ := (paste_bnd p (clsOf L) hs).ops
  rw [← hx] at b1 b2
  have lc := h.clen
  have lb := h.b
  refine ⟨A', c', x, he, hx, WrO.of ho hp, rd_made ho hp, ⟨by unfold osOf at b1; rw [List.length_map] at b1; omega, fun o hm => ?_⟩, y⟩
  obtain ⟨h1, h2, h3⟩ := b2 o.o (by unfold osOf; exact List.mem_map_of_mem hm)
  omega
end
end Go.Proofs.YtfnkjcodcoehcaaGreatDoor
namespace Go.Proofs.YtfnkjcodcoehcaaGreatDoor
open Go.RowKit
set_option linter.unusedVariables false
set_option linter.unusedSimpArgs false

theorem rd_ops (u : World) (l : List OpS) (hs : Sub u u.heap.size l) {cs : Array Value} (hc : cs.toList = l.flatMap OpS.enc) {b : Nat} (hb : b = u.heap.size) :
    RdOp (u.alloc (.cells cs 50)) (u.alloc (.cells cs 50)).heap.size (some ⟨b, 0, none⟩) l :=
  ⟨Rd.new (enc := OpS.enc) (size := 5) OpS.enc_len u 50 l hc hb, hs.ext (ext_alloc u _)⟩
end Go.Proofs.YtfnkjcodcoehcaaGreatDoor
namespace Go.Proofs.YtfnkjcodcoehcaaGreatDoor
open Go.RowKit
set_option linter.unusedVariables false
set_option linter.unusedSimpArgs false

def dA26 : List ClS := [⟨⟨97, []⟩, none, 0⟩, ⟨⟨98, []⟩, none, 0⟩, ⟨⟨10, []⟩, none, 0⟩]
def xA26 (b : Nat) : List OpS := [⟨opR 2 [], none, 0, none, 0, none, 0⟩, ⟨opI [98, 10] [], some ⟨b, 0, none⟩, 2, none, 0, none, 0⟩]
theorem cut26 : cutC (clsOf dA26) 1 3 = [⟨98, []⟩, ⟨10, []⟩] := by kernel_rfl
theorem paste26 : mkOps (pasteM 2 [⟨98, []⟩, ⟨10, []⟩]) = [opR 2 [], opI [98, 10] []] := by decide +kernel
set_option maxRecDepth 100000 in
set_option maxHeartbeats 3200000 in
theorem known26_any (w : World) (hT : Lib.Utf8Tabs 1 2 w) :
    Calls Tryz.prog 12 #[] w fun e w' => e = .returned (.bool true) ∧ Below w.heap.size w w' := by
  go_enter Tryz.func12, Tryz.ntmps12
  go_wp2_with (go_at_call 16; refine Hid.out ?_)
  refine Lib.hid ?_
  have ya := ext_alloc w (.cells #[.int .i32 97, .slice none 0 0, .int .i32 98, .slice none 0 0, .int .i32 10, .slice none 0 0] 38)
  have ra : RdCs _ _ _ dA26 := Rd.new (enc := ClS.enc) (size := 2) ClS.enc_len w 38 dA26 (cs := #[.int .i32 97, .slice none 0 0, .int .i32 98, .slice none 0 0, .int .i32 10, .slice none 0 0]) rfl rfl
  have nA : ∀ x ∈ dA26, x.c.s = [] := fun x hx => by
    simp only [dA26, List.mem_cons, List.not_mem_nil, or_false] at hx
    rcases hx with rfl | rfl | rfl <;> rfl
  refine (cut_any (some ⟨w.heap.size, 0, none⟩) 3 3 dA26 1 3 _ rfl (Nat.le_refl _) (show RdCl _ _ _ dA26 from ⟨ra, fun x hx => by rw [nA x hx]; exact Rd.nil⟩) (by omega) (fun x hx => by rw [nA x hx]; simp)).mono ?_
  rw [cut26]
  rintro e w1 ⟨A1, c1, L, rfl, hL, oL, pL, y1⟩
  have Y1 := Lib.hid (ext_trans ya y1)
  have hlen : L.length = 2 := by have := congrArg List.length hL; rw [clsOf_len] at this; simpa using this
  have LN := Lib.hid hlen
  have HL := Lib.hid hL
  have RL := Lib.hid (rd_cells oL pL).1
  have SL : Hid (∀ z ∈ L, z.c.s.length ≤ 64) := Lib.hid (fun z hz => by
    have hm : z.c ∈ clsOf L := by unfold clsOf; exact List.mem_map_of_mem hz
    rw [hL] at hm
    simp only [List.mem_cons, List.not_mem_nil, or_false] at hm
    rcases hm with h | h <;> rw [h] <;> simp)
  obtain ⟨g, cur, hA, _, _, _, _, _, _, _⟩ := oL.row (by omega)
  subst hA
  have Z1 : Hid (∀ v, Below w1.heap.size w1 v → v.cell? ⟨g, 0, none⟩ = some (.int .i32 98)) := Lib.hid (fun v hv => by
    obtain ⟨ad, x, hA2, _, _, hx1, hc1⟩ := (RL.out.ext hv).1.el (i := 0) (by omega)
    injection hA2 with hA2
    subst hA2
    have h1 := clsOf_at hx1
    rw [hL] at h1
    have h2 : (⟨98, []⟩ : Cl) = x.c := by simpa using h1
    obtain ⟨⟨r, s⟩, As, cs⟩ := x
    have h3 : r = 98 := by injection h2 with h3; exact h3.symm
    subst h3
    obtain ⟨t0, -⟩ := cl_cells hc1
    exact t0)
  rw [hlen]
  clear ya ra nA y1 hL oL pL hlen
  go_wp2_with (go_at_call 21; refine Hid.out ?_)
  refine Lib.hid ?_
  refine (paste_any 2 (some ⟨g, 0, none⟩) 2 c1 L w1 LN.out.symm RL.out (by omega) SL.out).mono ?_
  rw [HL.out, paste26]
  rintro e w2 ⟨A2, c2, x2, rfl, ho2, hw2, hp2, y2⟩
  have Y2 := Lib.hid y2
  have hlx : x2.length = 2 := by have := congrArg List.length ho2; unfold osOf at this; simpa using this
  have OB : ∀ x ∈ x2, x.o.r.length ≤ 100000000 ∧ x.o.s.length ≤ 100000000 ∧ x.o.p.length ≤ 100000000 := fun x hx => by
    have hm : x.o ∈ osOf x2 := by unfold osOf; exact List.mem_map_of_mem hx
    rw [ho2] at hm
    simp only [List.mem_cons, List.not_mem_nil, or_false] at hm
    rcases hm with h | h <;> rw [h] <;> simp [opR, opI]
  have R2 := Lib.hid (rd_made hw2 hp2)
  have HO := Lib.hid ho2
  have HOB := Lib.hid OB
  have HLN := Lib.hid hlx
  rw [hlx]
  clear ho2 hw2 hp2 OB hlx y2
  go_wp2_with (go_at_call 24; refine Hid.out ?_)
  refine Lib.hid ?_
  refine (part26_any (some ⟨g, 0, none⟩) 2 c1 L w2 LN.out.symm (RL.out.ext Y2.out).1 (by omega)).mono ?_
  rw [HL.out, show linesC [⟨98, []⟩, ⟨10, []⟩] = 1 from rfl]
  rintro e w3 ⟨rfl, d3, rfl⟩
  have y3 := ext_drew w2 d3
  generalize w2.drewN d3 = w3 at *
  have Y3 := Lib.hid y3
  have z1 := Z1.out w3 (ext_trans Y2.out y3)
  clear y3
  go_wp2_with (go_at_call 22; refine Hid.out ?_)
  refine Lib.hid ?_
  have ya := ext_alloc w3 (.cells #[.int .i32 98, .int .i32 10] 21)
  have ra : RdI32 _ _ _ [98, 10] := Rd.new (enc := encI32) (size := 1) encI32_len w3 21 [98, 10] (cs := #[.int .i32 98, .int .i32 10]) rfl rfl
  have s1 : (w3.alloc (.cells #[.int .i32 98, .int .i32 10] 21)).heap.size = w3.heap.size + 1 := by simp
  generalize w3.alloc (.cells #[.int .i32 98, .int .i32 10] 21) = u4 at *
  have yb := ext_alloc u4 (.cells #[.int .u8 1, .int .i64 2, .slice none 0 0, .slice none 0 0, .slice none 0 0, .int .u8 2, .int .i64 0, .slice (some ⟨w3.heap.size, 0, none⟩) 2 2, .slice none 0 0, .slice none 0 0] 50)
  have rb := rd_ops u4 (xA26 w3.heap.size) (fun z hz => by
    simp only [xA26, List.mem_cons, List.not_mem_nil, or_false] at hz
    rcases hz with rfl | rfl
    · exact ⟨Rd.nil, Rd.nil, Rd.nil⟩
    · exact ⟨ra, Rd.nil, Rd.nil⟩) (cs := #[.int .u8 1, .int .i64 2, .slice none 0 0, .slice none 0 0, .slice none 0 0, .int .u8 2, .int .i64 0, .slice (some ⟨w3.heap.size, 0, none⟩) 2 2, .slice none 0 0, .slice none 0 0]) rfl (b := w3.heap.size + 1) s1.symm
  generalize u4.alloc (.cells #[.int .u8 1, .int .i64 2, .slice none 0 0, .slice none 0 0, .slice none 0 0, .int .u8 2, .int .i64 0, .slice (some ⟨w3.heap.size, 0, none⟩) 2 2, .slice none 0 0, .slice none 0 0] 50) = u5 at *
  refine (same15_any A2 (some ⟨w3.heap.size + 1, 0, none⟩) 2 2 c2 2 x2 (xA26 w3.heap.size) u5 HLN.out.symm rfl (R2.out.ext (ext_trans Y3.out (ext_trans ya yb))) rb (by omega) (by omega) HOB.out (fun z hz => by
    simp only [xA26, List.mem_cons, List.not_mem_nil, or_false] at hz
    rcases hz with rfl | rfl <;> simp [opR, opI])).mono ?_
  rw [HO.out, show osOf (xA26 w3.heap.size) = [opR 2 [], opI [98, 10] []] from rfl, decide_eq_true rfl]
  have Y5 := Lib.hid (ext_trans (ext_trans Y1.out Y2.out) (ext_trans Y3.out (ext_trans ya yb)))
  clear ya yb ra rb s1
  rintro e u6 ⟨rfl, y6⟩
  have yy := ext_trans Y5.out y6
  go_wp2_with (fail)
  go_ret
  exact ⟨rfl, yy⟩
end Go.Proofs.YtfnkjcodcoehcaaGreatDoor
namespace Go.Proofs.YtfnkjcodcoehcaaGreatDoor
open Go.RowKit
set_option linter.unusedVariables false
set_option linter.unusedSimpArgs false

def GreatOut (n : Nat) (l : List ClS) (lim : Int) (w : World) (e : Ending) (w' : World) : Prop :=
  ∃ b : Bool, e = .returned (.bool b) ∧ (b = false → (n : Int) ≤ lim ∧ ∀ x ∈ l, x.c.s.length ≤ 64) ∧ ∃ d, w' = w.drewN d
set_option maxRecDepth 100000 in
set_option maxHeartbeats 1600000 in
theorem great18_any (A : Option Addr) (n c : Nat) (l : List ClS) (lim : Int) (w : World) (hn : n = l.length) (h : RdCl w w.heap.size A l) (hb : n ≤ 140737488355328) (hs : ∀ x ∈ l, x.c.s.length ≤ 140737488355328) :
    Calls Tryz.prog 11 #[.slice A n c, .int .i64 lim] w (GreatOut n l lim w) := by
  have N := Lib.hid hn
  have HR := Lib.hid h
  have HS := Lib.hid hs
  clear hn h hs
  by_cases hl : lim < (n : Int)
  · go_enter Tryz.func11, Tryz.ntmps11
    go_wp2_with (fail)
    go_ret
    exact ⟨true, rfl, (by intro h; cases h), 0, rfl⟩
  have hle : (n : Int) ≤ lim := by omega
  go_enter Tryz.func11, Tryz.ntmps11
  go_wp2_with (fail)
  go_loopg [5, 6] n (fun g av iv wr => ∃ (m : Nat) (a : Int), m ≤ n ∧ g = n - m ∧ av = .int .i64 a ∧ iv = .int .i64 (m : Int) ∧ (∃ d, wr = w.drewN d) ∧ Hid (∀ x ∈ l.take m, x.c.s.length ≤ 64))
  case atStart => exact ⟨0, 0, by omega, rfl, rfl, rfl, ⟨0, rfl⟩, Lib.hid (by simp)⟩
  case round =>
    obtain ⟨m, a, hm, hg, rfl, rfl, ⟨d, rfl⟩, HI⟩ := hrel
    have HG := Lib.hid hg
    clear hg
    by_cases hlt : m < n
    · have hl1 : m < l.length := by have := N.out; omega
      obtain ⟨ad, o, had0, had, hd1, hx1, hc0⟩ := HR.out.1.el hl1
      subst had0
      have hmem := List.mem_of_getElem? hx1
      have g2 := HR.out.2 o hmem
      have hso := HS.out o hmem
      have HT : Hid (l.take (m + 1) = l.take m ++ [o]) := Lib.hid (by rw [List.take_add_one, hx1]; rfl)
      obtain ⟨⟨r, s⟩, As, cs⟩ := o
      simp only at g2 hso
      obtain ⟨r0, r1⟩ := cl_cells hc0
      obtain ⟨ns, hns⟩ : ∃ X, s.length = X := ⟨_, rfl⟩
      have NS := Lib.hid hns
      rw [hns] at r1 hso
      have hw2 : IntKind.i64.wrap ((m:Int) + 1) = (m : Int) + 1 := IntWalk.i64_in _ (by omega)
      clear hc0 hd1 hx1 hmem hns hl1
      by_cases h64 : (64 : Int) < (ns : Int)
      · go_wp2_with (fail)
        go_ret
        exact ⟨true, rfl, (by intro h; cases h), _, rfl⟩
      · have h64' : Hid (s.length ≤ 64) := Lib.hid (by rw [NS.out]; omega)
        go_wp2_with (fail)
        go_loopg [5, 7] ns (fun g av iv wi => ∃ (j : Nat) (b : Int), j ≤ ns ∧ g = ns - j ∧ av = .int .i64 b ∧ iv = .int .i64 (j : Int) ∧ ∃ d, wi = w.drewN d)
        case atStart => exact ⟨0, _, by omega, rfl, rfl, rfl, _, rfl⟩
        case round =>
          obtain ⟨j, b, hj, hg2, rfl, rfl, d2, rfl⟩ := hrel
          have HG2 := Lib.hid hg2
          clear hg2
          by_cases hls : j < ns
          · obtain ⟨ad2, z, e2, _, _, _, hz⟩ := g2.el (i := j) (by have := NS.out; omega)
            subst e2
            obtain ⟨z1, z2, z3, z4, z5⟩ := z
            obtain ⟨s0, s1, s2, s3, s4⟩ := at_cells hz
            have hw3 : IntKind.i64.wrap ((j:Int) + 1) = (j : Int) + 1 := IntWalk.i64_in _ (by omega)
            clear hz
            go_wp2_with (fail)
            go_roundg (ns - (j + 1))
            case measure => have := HG2.out; omega
            case rel => exact ⟨j + 1, _, by omega, rfl, rfl, by go_num, _, rfl⟩
          · go_wp2_with (fail)
            go_roundg (n - (m + 1))
            case measure => have := HG.out; omega
            case rel =>
              refine ⟨m + 1, _, by omega, rfl, rfl, by go_num, ⟨_, rfl⟩, Lib.hid ?_⟩
              intro y hy
              rw [HT.out] at hy
              rcases List.mem_append.1 hy with hy | hy
              · exact HI.out y hy
              · simp at hy; subst hy; exact h64'.out
    · have hmn : l.take m = l := List.take_of_length_le (by have := N.out; omega)
      have HI2 := HI.out
      rw [hmn] at HI2
      have H2 := Lib.hid HI2
      clear HI2 hmn
      go_wp2_with (fail)
      go_ret
      exact ⟨_, rfl, fun _ => ⟨hle, H2.out⟩, _, rfl⟩
end Go.Proofs.YtfnkjcodcoehcaaGreatDoor
