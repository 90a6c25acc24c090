/- Merged texts: Made, SameCl. -/
import Derived.Test.YtnppoifgfehpfaaGreatDoorPk24
import Derived.Test.YtnppoifgfehpfaaGreatDoorOpsCopyPd
import Derived.Test.YtnppoifgfehpfaaGreatDoorPk17
import Derived.Test.YtnppoifgfehpfaaGreatDoorPk14
import Derived.Test.YtnppoifgfehpfaaGreatDoorPk12
import Derived.Test.YtnppoifgfehpfaaGreatDoorPk15
/- Ops that a maker made: how they read, and that they may be handed on. -/
namespace Go.Proofs.YtnppoifgfehpfaaGreatDoor
open Go.RowKit
set_option linter.unusedVariables false
set_option linter.unusedSimpArgs false

theorem nf_all {P : Un → Prop} (hd : P .del) {us : List Un} (h : ∀ u ∈ us, P u) : ∀ u ∈ nf us, P u := fun u hu => by
  obtain ⟨k, hk⟩ := trim_pre (canon us)
  refine cn_all hd us [] 0 (by simp) h u ?_
  show u ∈ canon us
  rw [hk]; exact List.mem_append_left _ hu
theorem MkB.tell {S : Nat} : ∀ (f : List Cl) {m : Mk} {K : Nat}, MkB m K S → (∀ c ∈ f, c.s.length ≤ S) → MkB (tellM m f) (K + f.length) S
  | [], m, K, h, _ => h
  | c :: f, m, K, h, hs => by
    have h1 := h.insert [c.r] (hs c (by simp))
    have h2 := MkB.tell f h1 (fun x hx => hs x (List.mem_cons_of_mem _ hx))
    have e : tellM m (c :: f) = tellM (mkInsert m [c.r] c.s) f := rfl
    rw [e]
    exact h2.mono (by simp; omega) (Nat.le_refl _)
/-- a made delta may be handed on -/
theorem ok_made {x : List OpS} {m : Mk} {us : List Un} {K S : Nat} (hx : osOf x = mkOps m) (ht : Told m us) (hu : ∀ u ∈ us, okUn u) (hB : MkB m K S) (hK : K ≤ 100000000) (hS : S ≤ 100000000) : (∀ o ∈ x, okOp o.o) ∧ x.length ≤ K + 1 := by
  obtain ⟨h1, h2⟩ := ht.ops
  rw [← hx] at h1 h2
  obtain ⟨b1, b2⟩ := hB.ops
  rw [← hx] at b1 b2
  have hn := nf_all (P := okUn) trivial hu
  rw [← h2] at hn
  refine ⟨fun o ho => ?_, by unfold osOf at b1; simpa using b1⟩
  have hom : o.o ∈ osOf x := by unfold osOf; exact List.mem_map_of_mem ho
  obtain ⟨l1, l2, l3⟩ := b2 o.o hom
  have hop := tight_isOp h1 o.o hom
  have hsub : ∀ u ∈ unitsO o.o, okUn u := fun u hu => hn u (units_mem.2 ⟨o, ho, hu⟩)
  have nilr : okVr ([] : List At) := fun c hc => by cases hc
  have nils : okVs ([] : List Ch) := fun c hc => by cases hc
  refine ⟨?_, ?_, by omega, by omega, by omega⟩
  · rcases isOp_kind hop with hk | hk | hk
    · obtain ⟨e, hr⟩ := opI_of hop hk
      cases hr' : o.o.r with
      | nil => exact absurd hr' hr
      | cons r rs => exact hsub (.ins r o.o.s) (by unfold unitsO; rw [if_pos hk, hr']; simp)
    · obtain ⟨e, hr⟩ := opD_of hop hk
      rw [e]; exact nilr
    · obtain ⟨e, hr⟩ := opR_of hop hk
      rw [e]; exact nilr
  · rcases isOp_kind hop with hk | hk | hk
    · obtain ⟨e, hr⟩ := opI_of hop hk
      rw [e]; exact nils
    · obtain ⟨e, hr⟩ := opD_of hop hk
      rw [e]; exact nils
    · obtain ⟨e, hr⟩ := opR_of hop hk
      obtain ⟨k, hk2⟩ : ∃ k, o.o.n.toNat = k + 1 := ⟨o.o.n.toNat - 1, by omega⟩
      exact hsub (.ret o.o.p) (by unfold unitsO; rw [if_neg (by rw [hk]; decide), if_pos hk, hk2]; simp [List.replicate_succ])
/-- how it reads -/
theorem rd_made {w : World} {B : Nat} {A : Option Addr} {c : Nat} {x : List OpS} (ho : OwOs w B (.slice A x.length c) x) (hp : ∀ z ∈ x, ∃ g, PartN w B g z) : RdOp w w.heap.size A x := ⟨ho.rd OpS.enc_len, fun z hz => by
  obtain ⟨g, h1, h2, h3⟩ := hp z hz
  exact ⟨h1.1.rd encI32_len, h2.1.rd At.enc_len, h3.1.rd Ch.enc_len⟩⟩
/-- how cells of the call's own read -/
theorem rd_cells {w : World} {B B2 : Nat} {A : Option Addr} {c : Nat} {v : Value} {L : List ClS} (ho : OwCs w B (.slice A L.length c) L) (hp : ∀ z ∈ L, PartC w B2 v z) : RdCl w w.heap.size A L ∧ (∀ z ∈ L, z.c.s.length ≤ z.cs ∧ z.cs ≤ maxLen) ∧ L.length ≤ c := ⟨⟨ho.rd ClS.enc_len, fun z hz => (hp z hz).1.rd At.enc_len⟩, fun z hz => by
    obtain ⟨_, _, hv, hc1, hc2⟩ := (hp z hz).1.form
    injection hv with _ _ hcc
    subst hcc
    exact ⟨hc1, hc2⟩, ho.cap.1⟩
theorem blank_may (l : List Ky) : mayD l blankC' = 0 := (frag_iff (l := l) (f := [])).2 ⟨Nat.zero_le _, fun c hc => by cases hc⟩
theorem load_un {l : List Ky} {d : List Cl} (hd : mayD l d = 0) (hv : ∀ c ∈ d, okVr c.s) : ∀ u ∈ loadU d, okUn u := by
  obtain ⟨_, h1, t, c, rfl, _⟩ := mayD_iff.1 hd
  rw [loadU_snoc]
  intro u hu
  rcases List.mem_append.1 hu with hu | hu
  · obtain ⟨x, hx, rfl⟩ := List.mem_map.1 hu
    exact hv x (by simp [hx])
  · simp at hu; subst hu
    have hc := (h1 c (by simp)).2.1
    exact vs_diff rfl (mayS_zero hc).2.1 (mayS_va hc (hv c (by simp)))
theorem load_B (d : List Cl) (hs : ∀ c ∈ d, c.s.length ≤ 64) : MkB (deltaM d) (d.length + 2) 64 := by
  rcases List.eq_nil_or_concat d with h0 | ⟨t, c, h0⟩
  · subst h0
    exact (MkB.new 64).mono (by simp) (Nat.le_refl _)
  · rw [List.concat_eq_append] at h0
    subst h0
    have e : deltaM (t ++ [c]) = mkRetain (tellM Mk.new t) 1 (diffP [] c.s) := by unfold deltaM; simp
    rw [e]
    have h := ((MkB.tell t (MkB.new 64) (fun x hx => hs x (by simp [hx]))).retain 1 (p := diffP [] c.s) (by rw [diff_new, List.length_map]; exact hs c (by simp)))
    exact h.mono (by simp only [List.length_append, List.length_singleton]; omega) (Nat.le_refl _)
end Go.Proofs.YtnppoifgfehpfaaGreatDoor
/- The walks of cells.Same and cells.Text. -/
namespace Go.Proofs.YtnppoifgfehpfaaGreatDoor
open Go.RowKit
set_option linter.unusedVariables false
set_option linter.unusedSimpArgs false

set_option maxRecDepth 100000 in
set_option maxHeartbeats 400000 in
theorem sameCl1_any (r1 r2 : Int) (p1 p2 : List At) (A1 A2 : Option Addr) (c1 c2 : Nat) (w : World) (h1 : RdAt w w.heap.size A1 p1) (h2 : RdAt w w.heap.size A2 p2) (b1 : p1.length ≤ 140737488355328) (b2 : p2.length ≤ 140737488355328) :
    Calls Tryz.prog 71 #[.agg #[.int .i32 r1, .slice A1 p1.length c1], .agg #[.int .i32 r2, .slice A2 p2.length c2]] w fun e w' => e = .returned (.bool (decide ((⟨r1, p1⟩ : Cl) = ⟨r2, p2⟩))) ∧ Below w.heap.size w w' := by
  have y1 := ext_alloc w (.cells #[.int .i32 r1, .slice A1 p1.length c1] 71)
  have y2 := ext_alloc (w.alloc (.cells #[.int .i32 r1, .slice A1 p1.length c1] 71)) (.cells #[.int .i32 r2, .slice A2 p2.length c2] 71)
  have yy := ext_trans y1 y2
  have q1 := h1.ext yy
  have q2 := h2.ext yy
  obtain ⟨a0, a1⟩ := box_cl ((y2.block w.heap.size (by simp)).trans (heap_alloc_new w (.cells #[.int .i32 r1, .slice A1 p1.length c1] 71)))
  by_cases hr : r1 = r2
  · subst hr
    have HB : Hid (decide ((⟨r1, p1⟩ : Cl) = ⟨r1, p2⟩) = decide (p1 = p2)) := Lib.hid (by by_cases h : p1 = p2 <;> simp [h])
    rw [HB.out]
    clear y1 y2 h1 h2
    go_enter Tryz.func71, Tryz.ntmps71
    go_wp2_with (go_at_call 72; refine Hid.out ?_)
    refine Lib.hid ?_
    refine (attrsSame_any A1 A2 p1.length p2.length c1 c2 p1 p2 _ rfl rfl q1 q2 b1 b2).mono ?_
    rintro e w' ⟨rfl, q, rfl⟩
    cases hd : decide (p1 = p2)
    all_goals
      have HD := Lib.hid hd
      clear hd
      go_wp2_with (fail)
      go_ret
      exact ⟨ret_bool HD.out.symm, below_drewN yy q⟩
  · have HB : Hid (decide ((⟨r1, p1⟩ : Cl) = ⟨r2, p2⟩) = false) := Lib.hid (decide_eq_false (fun e => hr (by injection e)))
    rw [HB.out]
    have hne : (r1 == r2) = false := beq_eq_false_iff_ne.2 hr
    clear y1 y2 h1 h2 hr
    go_enter Tryz.func71, Tryz.ntmps71
    go_wp2_with (fail)
    go_ret
    exact ⟨rfl, yy⟩

set_option maxRecDepth 100000 in
set_option maxHeartbeats 800000 in
theorem equalCl_any (A B : Option Addr) (n m c d : Nat) (l k : List ClS) (w : World) (hn : n = l.length) (hm : m = k.length) (h1 : RdCl w w.heap.size A l) (h2 : RdCl w w.heap.size B k) (hb : n ≤ 100000000) (hb2 : m ≤ 100000000)
    (hs1 : ∀ x ∈ l, x.c.s.length ≤ 140737488355328) (hs2 : ∀ x ∈ k, x.c.s.length ≤ 140737488355328) :
    Calls Tryz.prog 70 #[.slice A n c, .slice B m d, .func (.func 71) #[] #[]] w fun e w' => e = .returned (.bool (decide (clsOf l = clsOf k))) ∧ Below w.heap.size w w' := by
  have N := Lib.hid hn
  have M := Lib.hid hm
  have H1 := Lib.hid h1
  have H2 := Lib.hid h2
  have S1 := Lib.hid hs1
  have S2 := Lib.hid hs2
  generalize hR : decide (clsOf l = clsOf k) = R
  have HR := Lib.hid hR
  clear hn hR hm h1 h2 hs1 hs2
  have HL : Hid (∀ x : List ClS, (clsOf x).length = x.length) := Lib.hid (fun x => by unfold clsOf; simp)
  by_cases hnm : (n : Int) = m
  · have hnm' : n = m := by omega
    subst hnm'
    clear hnm
    go_enter Tryz.func70, Tryz.ntmps70
    go_wp2_with (fail)
    go_loopg [17] n (fun g iv wr => ∃ i : Nat, i ≤ n ∧ g = n - i ∧ iv = .int .i64 (i : Int) ∧ Below w.heap.size w wr ∧ Hid (decide (clsOf (l.drop i) = clsOf (k.drop i)) = R))
    case atStart => exact ⟨0, by omega, rfl, rfl, Below.refl _ _, Lib.hid (by rw [List.drop_zero, List.drop_zero]; exact HR.out)⟩
    case round =>
      obtain ⟨i, hi, hg, rfl, y, HI⟩ := hrel
      have HG := Lib.hid hg
      clear hg HR
      by_cases hlt : i < n
      · have hl1 : i < l.length := by have := N.out; omega
        have hl2 : i < k.length := by have := M.out; omega
        obtain ⟨ad, x, rfl, _, hd1, hx1, hc1⟩ := (H1.out.ext y).1.el hl1
        obtain ⟨ad2, x', rfl, had2, hd2, hx2, hc2⟩ := (H2.out.ext y).1.el hl2
        have hm1 := List.mem_of_getElem? hx1
        have hm2 := List.mem_of_getElem? hx2
        have p1 := Lib.hid (H1.out.2 x hm1)
        have p2 := Lib.hid (H2.out.2 x' hm2)
        have b1 := Lib.hid (S1.out x hm1)
        have b2 := Lib.hid (S2.out x' hm2)
        have HI' : Hid (decide (x.c :: clsOf (l.drop (i + 1)) = x'.c :: clsOf (k.drop (i + 1))) = R) := Lib.hid (by rw [← HI.out, hd1, hd2]; rfl)
        clear HI hd1 hd2 hx1 hx2 hm1 hm2
        obtain ⟨⟨r1, s1⟩, As1, cs1⟩ := x
        obtain ⟨⟨r2, s2⟩, As2, cs2⟩ := x'
        obtain ⟨z0, z1⟩ := cl_cells hc1
        have ya := ext_alloc wr (.cells #[.int .i32 r1, .slice As1 s1.length cs1] 71)
        obtain ⟨u0, u1⟩ := cl_cells (hc2.keep (w' := wr.alloc (.cells #[.int .i32 r1, .slice As1 s1.length cs1] 71)) fun q hq => ya.cell (by rw [hq, add_block]; exact had2))
        clear hc1 hc2 hl1 hl2 had2
        have yb := ext_alloc (wr.alloc (.cells #[.int .i32 r1, .slice As1 s1.length cs1] 71)) (.cells #[.int .i32 r2, .slice As2 s2.length cs2] 71)
        have y3 := Lib.hid (ext_trans y (ext_trans ya yb))
        clear ya yb
        go_wp2_with (go_at_call 71; refine Hid.out ?_)
        refine Lib.hid ?_
        refine (sameCl1_any r1 r2 s1 s2 As1 As2 cs1 cs2 _ (p1.out.ext y3.out) (p2.out.ext y3.out) b1.out b2.out).mono ?_
        rintro e w' ⟨rfl, y4⟩
        have yy := ext_trans y3.out y4
        have hw2 : IntKind.i64.wrap ((i:Int) + 1) = (i : Int) + 1 := IntWalk.i64_in _ (by omega)
        by_cases hxy : (⟨r1, s1⟩ : Cl) = ⟨r2, s2⟩
        · have HXY := Lib.hid hxy
          rw [decide_eq_true hxy]
          clear hxy
          go_wp2_with (fail)
          go_roundg (n - (i + 1))
          case measure => have := HG.out; omega
          case rel => exact ⟨i + 1, by omega, rfl, by go_num, yy, Lib.hid (by rw [← HI'.out]; simp only [List.cons.injEq, HXY.out, true_and])⟩
        · have HXY := Lib.hid hxy
          rw [decide_eq_false hxy]
          clear hxy
          go_wp2_with (fail)
          go_ret
          exact ⟨ret_bool (by rw [← HI'.out]; exact (decide_eq_false fun e => HXY.out (List.cons.inj e).1).symm), yy⟩
      · go_wp2_with (fail)
        go_ret
        exact ⟨ret_bool (by rw [← HI.out, List.drop_eq_nil_of_le (by have := N.out; omega), List.drop_eq_nil_of_le (by have := M.out; omega)]; rfl), y⟩
  · have hne : ((n : Int) == m) = false := beq_eq_false_iff_ne.2 hnm
    go_enter Tryz.func70, Tryz.ntmps70
    go_wp2_with (fail)
    go_ret
    refine ⟨ret_bool ?_, Below.refl _ _⟩
    rw [← HR.out]
    refine (decide_eq_false fun e => ?_).symm
    have h3 := N.out
    have h4 := M.out
    have h5 := congrArg List.length e
    rw [HL.out, HL.out] at h5
    omega
set_option maxHeartbeats 400000 in
theorem cellsSame_any (A B : Option Addr) (n m c d : Nat) (l k : List ClS) (w : World) (hn : n = l.length) (hm : m = k.length) (h1 : RdCl w w.heap.size A l) (h2 : RdCl w w.heap.size B k) (hb : n ≤ 100000000) (hb2 : m ≤ 100000000)
    (hs1 : ∀ x ∈ l, x.c.s.length ≤ 140737488355328) (hs2 : ∀ x ∈ k, x.c.s.length ≤ 140737488355328) :
    Calls Tryz.prog 22 #[.slice A n c, .slice B m d] w fun e w' => e = .returned (.bool (decide (clsOf l = clsOf k))) ∧ Below w.heap.size w w' := by
  have H := Lib.hid (equalCl_any A B n m c d l k w hn hm h1 h2 hb hb2 hs1 hs2)
  clear hn hm h1 h2 hs1 hs2
  generalize decide (clsOf l = clsOf k) = R at *
  go_enter Tryz.func22, Tryz.ntmps22
  go_wp2_with (go_at_call 70; refine Hid.out ?_)
  refine Lib.hid ?_
  refine H.out.mono ?_
  rintro e w' ⟨rfl, y⟩
  go_wp2_with (fail)
  go_ret
  exact ⟨rfl, y⟩

end Go.Proofs.YtnppoifgfehpfaaGreatDoor
