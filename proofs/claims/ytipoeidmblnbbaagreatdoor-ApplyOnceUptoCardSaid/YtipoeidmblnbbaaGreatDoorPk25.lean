/- Merged texts: MkB, Made, SameCl, OwLit, FragW. -/
import Derived.Test.YtipoeidmblnbbaaGreatDoorPk7
import Derived.Test.YtipoeidmblnbbaaGreatDoorPk24
import Derived.Test.YtipoeidmblnbbaaGreatDoorOpsCopyPd
import Derived.Test.YtipoeidmblnbbaaGreatDoorPk17
import Derived.Test.YtipoeidmblnbbaaGreatDoorPk14
import Derived.Test.YtipoeidmblnbbaaGreatDoorPk12
import Derived.Test.YtipoeidmblnbbaaGreatDoorPk15
import Derived.Test.YtipoeidmblnbbaaGreatDoorPk9
import Derived.Test.YtipoeidmblnbbaaGreatDoorPk21
import Derived.Test.YtipoeidmblnbbaaGreatDoorPk23
import Derived.Test.YtipoeidmblnbbaaGreatDoorMkOpsPd
import Derived.Test.YtipoeidmblnbbaaGreatDoorPk18
/- How great a maker of normal forms is. Plain mathematics. -/
namespace Go.Proofs.YtipoeidmblnbbaaGreatDoor
set_option linter.unusedVariables false
set_option linter.unusedSimpArgs false

/-- a maker has at most K ops, with at most K runes and S attributes or changes each -/
structure MkB (m : Mk) (K S : Nat) : Prop where
  len : m.done.length + m.ins.length ≤ K
  prt : ∀ o ∈ m.done ++ m.ins, o.r.length ≤ K ∧ o.s.length ≤ S ∧ o.p.length ≤ S
theorem MkB.new (S : Nat) : MkB Mk.new 0 S := ⟨Nat.le_refl _, fun o h => by simp [Mk.new] at h⟩
theorem MkB.mono {m : Mk} {K K' S S' : Nat} (h : MkB m K S) (hK : K ≤ K') (hS : S ≤ S') : MkB m K' S' :=
  ⟨Nat.le_trans h.len hK, fun o ho => by obtain ⟨h1, h2, h3⟩ := h.prt o ho; exact ⟨by omega, by omega, by omega⟩⟩
theorem MkB.gap {m : Mk} {K S : Nat} (h : MkB m K S) : (m.done ++ mkGap m).length ≤ K + 1 ∧ ∀ o ∈ m.done ++ mkGap m, o.r.length ≤ K ∧ o.s.length ≤ S ∧ o.p.length ≤ S := by
  have h1 := h.len
  refine ⟨?_, fun o ho => ?_⟩
  · unfold mkGap
    split <;> simp <;> omega
  · unfold mkGap at ho
    rw [← List.append_assoc] at ho
    rcases List.mem_append.1 ho with ho | ho
    · exact h.prt o ho
    · split at ho
      · simp at ho; subst ho; exact ⟨Nat.zero_le _, Nat.zero_le _, Nat.zero_le _⟩
      · cases ho
theorem addR_bnd {d : List Opd} {n : Int} {p : List Ch} {K S : Nat} (h : ∀ o ∈ d, o.r.length ≤ K ∧ o.s.length ≤ S ∧ o.p.length ≤ S) (hp : p.length ≤ S) :
    (addR d n p).length ≤ d.length + 1 ∧ ∀ o ∈ addR d n p, o.r.length ≤ K ∧ o.s.length ≤ S ∧ o.p.length ≤ S := by
  have push : (d ++ [opR n p]).length ≤ d.length + 1 ∧ ∀ o ∈ d ++ [opR n p], o.r.length ≤ K ∧ o.s.length ≤ S ∧ o.p.length ≤ S := ⟨by simp, fun o ho => by
    rcases List.mem_append.1 ho with ho | ho
    · exact h o ho
    · simp at ho; subst ho; exact ⟨Nat.zero_le _, Nat.zero_le _, hp⟩⟩
  unfold addR
  cases hg : d.getLast? with
  | none => exact push
  | some o =>
    simp only
    by_cases hc : o.k = 1 ∧ o.p = p
    · rw [if_pos hc]
      have hm := List.mem_of_getLast? hg
      refine ⟨by simp, fun x hx => ?_⟩
      rcases List.mem_append.1 hx with hx | hx
      · exact h x ((List.dropLast_sublist _).subset hx)
      · simp at hx; subst hx; exact h o hm
    · rw [if_neg hc]; exact push
theorem MkB.retain {m : Mk} {K S : Nat} (h : MkB m K S) (n : Int) {p : List Ch} (hp : p.length ≤ S) : MkB (mkRetain m n p) (K + 2) S := by
  unfold mkRetain
  split
  · exact h.mono (by omega) (Nat.le_refl _)
  · obtain ⟨g1, g2⟩ := h.gap
    obtain ⟨a1, a2⟩ := addR_bnd (n := n) (p := p) g2 hp
    refine ⟨by show (addR _ n p).length + 0 ≤ _; omega, fun o ho => ?_⟩
    have ho' : o ∈ addR (m.done ++ mkGap m) n p := by simpa using ho
    obtain ⟨h1, h2, h3⟩ := a2 o ho'
    exact ⟨by omega, h2, h3⟩
theorem MkB.insert {m : Mk} {K S : Nat} (h : MkB m K S) (l : List Int) {s : List At} (hs : s.length ≤ S) : MkB (mkInsert m l s) (K + l.length) S := by
  unfold mkInsert
  by_cases hl : l = []
  · rw [if_pos hl]; exact h.mono (by omega) (Nat.le_refl _)
  · rw [if_neg hl]
    have hpos : 0 < l.length := List.length_pos_iff.2 hl
    have hlen := h.len
    have base : ∀ o ∈ m.done ++ m.ins, o.r.length ≤ K + l.length ∧ o.s.length ≤ S ∧ o.p.length ≤ S := fun o ho => by obtain ⟨h1, h2, h3⟩ := h.prt o ho; exact ⟨by omega, h2, h3⟩
    have push : MkB { m with ins := m.ins ++ [opI l s] } (K + l.length) S := ⟨by simp; omega, fun o ho => by
      simp only at ho
      rw [← List.append_assoc] at ho
      rcases List.mem_append.1 ho with ho | ho
      · exact base o ho
      · simp at ho; subst ho; exact ⟨by simp [opI], hs, Nat.zero_le _⟩⟩
    unfold addI
    cases hg : m.ins.getLast? with
    | none => exact push
    | some o =>
      simp only
      by_cases hc : o.s = s
      · rw [if_pos hc]
        have hm := List.mem_of_getLast? hg
        have hpi := List.length_pos_of_mem hm
        refine ⟨by simp; omega, fun x hx => ?_⟩
        simp only at hx
        rw [← List.append_assoc] at hx
        rcases List.mem_append.1 hx with hx | hx
        · refine base x ?_
          rcases List.mem_append.1 hx with hx | hx
          · exact List.mem_append_left _ hx
          · exact List.mem_append_right _ ((List.dropLast_sublist _).subset hx)
        · simp at hx; subst hx
          obtain ⟨h1, h2, h3⟩ := h.prt o (List.mem_append_right _ hm)
          exact ⟨by simp; omega, h2, h3⟩
      · rw [if_neg hc]; exact push
theorem MkB.delete {m : Mk} {K S : Nat} (h : MkB m K S) (n : Int) : MkB (mkDelete m n) K S := ⟨h.len, h.prt⟩
theorem cutR_sub (d : List Opd) : (cutR d).length ≤ d.length ∧ ∀ o ∈ cutR d, o ∈ d := by
  unfold cutR
  split
  · split
    · exact ⟨(List.dropLast_sublist _).length_le, fun o ho => (List.dropLast_sublist _).subset ho⟩
    · exact ⟨Nat.le_refl _, fun o ho => ho⟩
  · exact ⟨Nat.le_refl _, fun o ho => ho⟩
theorem MkB.ops {m : Mk} {K S : Nat} (h : MkB m K S) : (mkOps m).length ≤ K + 1 ∧ ∀ o ∈ mkOps m, o.r.length ≤ K ∧ o.s.length ≤ S ∧ o.p.length ≤ S := by
  obtain ⟨g1, g2⟩ := h.gap
  obtain ⟨c1, c2⟩ := cutR_sub (m.done ++ mkGap m)
  exact ⟨Nat.le_trans c1 g1, fun o ho => g2 o (c2 o ho)⟩
end Go.Proofs.YtipoeidmblnbbaaGreatDoor
/- Ops that a maker made: how they read, and that they may be handed on. -/
namespace Go.Proofs.YtipoeidmblnbbaaGreatDoor
open Go.RowKit
set_option linter.unusedVariables false
set_option linter.unusedSimpArgs false

theorem nf_all {P : Un → Prop} (hd : P .del) {us : List Un} (h : ∀ u ∈ us, P u) : ∀ u ∈ nf us, P u := fun u hu => by
  obtain ⟨k, hk⟩ := trim_pre (canon us)
  refine cn_all hd us [] 0 (by simp) h u ?_
  show u ∈ canon us
  rw [hk]; exact List.mem_append_left _ hu
theorem MkB.tell {S : Nat} : ∀ (f : List Cl) {m : Mk} {K : Nat}, MkB m K S → (∀ c ∈ f, c.s.length ≤ S) → MkB (tellM m f) (K + f.length) S
  | [], m, K, h, _ => h
  | c :: f, m, K, h, hs => by
    have h1 := h.insert [c.r] (hs c (by simp))
    have h2 := MkB.tell f h1 (fun x hx => hs x (List.mem_cons_of_mem _ hx))
    have e : tellM m (c :: f) = tellM (mkInsert m [c.r] c.s) f := rfl
    rw [e]
    exact h2.mono (by simp; omega) (Nat.le_refl _)
/-- a made delta may be handed on -/
theorem ok_made {x : List OpS} {m : Mk} {us : List Un} {K S : Nat} (hx : osOf x = mkOps m) (ht : Told m us) (hu : ∀ u ∈ us, okUn u) (hB : MkB m K S) (hK : K ≤ 100000000) (hS : S ≤ 100000000) : (∀ o ∈ x, okOp o.o) ∧ x.length ≤ K + 1 := by
  obtain ⟨h1, h2⟩ := ht.ops
  rw [← hx] at h1 h2
  obtain ⟨b1, b2⟩ := hB.ops
  rw [← hx] at b1 b2
  have hn := nf_all (P := okUn) trivial hu
  rw [← h2] at hn
  refine ⟨fun o ho => ?_, by unfold osOf at b1; simpa using b1⟩
  have hom : o.o ∈ osOf x := by unfold osOf; exact List.mem_map_of_mem ho
  obtain ⟨l1, l2, l3⟩ := b2 o.o hom
  have hop := tight_isOp h1 o.o hom
  have hsub : ∀ u ∈ unitsO o.o, okUn u := fun u hu => hn u (units_mem.2 ⟨o, ho, hu⟩)
  have nilr : okVr ([] : List At) := fun c hc => by cases hc
  have nils : okVs ([] : List Ch) := fun c hc => by cases hc
  refine ⟨?_, ?_, by omega, by omega, by omega⟩
  · rcases isOp_kind hop with hk | hk | hk
    · obtain ⟨e, hr⟩ := opI_of hop hk
      cases hr' : o.o.r with
      | nil => exact absurd hr' hr
      | cons r rs => exact hsub (.ins r o.o.s) (by unfold unitsO; rw [if_pos hk, hr']; simp)
    · obtain ⟨e, hr⟩ := opD_of hop hk
      rw [e]; exact nilr
    · obtain ⟨e, hr⟩ := opR_of hop hk
      rw [e]; exact nilr
  · rcases isOp_kind hop with hk | hk | hk
    · obtain ⟨e, hr⟩ := opI_of hop hk
      rw [e]; exact nils
    · obtain ⟨e, hr⟩ := opD_of hop hk
      rw [e]; exact nils
    · obtain ⟨e, hr⟩ := opR_of hop hk
      obtain ⟨k, hk2⟩ : ∃ k, o.o.n.toNat = k + 1 := ⟨o.o.n.toNat - 1, by omega⟩
      exact hsub (.ret o.o.p) (by unfold unitsO; rw [if_neg (by rw [hk]; decide), if_pos hk, hk2]; simp [List.replicate_succ])
/-- how it reads -/
theorem rd_made {w : World} {B : Nat} {A : Option Addr} {c : Nat} {x : List OpS} (ho : OwOs w B (.slice A x.length c) x) (hp : ∀ z ∈ x, ∃ g, PartN w B g z) : RdOp w w.heap.size A x := ⟨ho.rd OpS.enc_len, fun z hz => by
  obtain ⟨g, h1, h2, h3⟩ := hp z hz
  exact ⟨h1.1.rd encI32_len, h2.1.rd At.enc_len, h3.1.rd Ch.enc_len⟩⟩
/-- how cells of the call's own read -/
theorem rd_cells {w : World} {B B2 : Nat} {A : Option Addr} {c : Nat} {v : Value} {L : List ClS} (ho : OwCs w B (.slice A L.length c) L) (hp : ∀ z ∈ L, PartC w B2 v z) : RdCl w w.heap.size A L ∧ (∀ z ∈ L, z.c.s.length ≤ z.cs ∧ z.cs ≤ maxLen) ∧ L.length ≤ c := ⟨⟨ho.rd ClS.enc_len, fun z hz => (hp z hz).1.rd At.enc_len⟩, fun z hz => by
    obtain ⟨_, _, hv, hc1, hc2⟩ := (hp z hz).1.form
    injection hv with _ _ hcc
    subst hcc
    exact ⟨hc1, hc2⟩, ho.cap.1⟩
theorem blank_may (l : List Ky) : mayD l blankC' = 0 := (frag_iff (l := l) (f := [])).2 ⟨Nat.zero_le _, fun c hc => by cases hc⟩
theorem load_un {l : List Ky} {d : List Cl} (hd : mayD l d = 0) (hv : ∀ c ∈ d, okVr c.s) : ∀ u ∈ loadU d, okUn u := by
  obtain ⟨_, h1, t, c, rfl, _⟩ := mayD_iff.1 hd
  rw [loadU_snoc]
  intro u hu
  rcases List.mem_append.1 hu with hu | hu
  · obtain ⟨x, hx, rfl⟩ := List.mem_map.1 hu
    exact hv x (by simp [hx])
  · simp at hu; subst hu
    have hc := (h1 c (by simp)).2.1
    exact vs_diff rfl (mayS_zero hc).2.1 (mayS_va hc (hv c (by simp)))
theorem load_B (d : List Cl) (hs : ∀ c ∈ d, c.s.length ≤ 64) : MkB (deltaM d) (d.length + 2) 64 := by
  rcases List.eq_nil_or_concat d with h0 | ⟨t, c, h0⟩
  · subst h0
    exact (MkB.new 64).mono (by simp) (Nat.le_refl _)
  · rw [List.concat_eq_append] at h0
    subst h0
    have e : deltaM (t ++ [c]) = mkRetain (tellM Mk.new t) 1 (diffP [] c.s) := by unfold deltaM; simp
    rw [e]
    have h := ((MkB.tell t (MkB.new 64) (fun x hx => hs x (by simp [hx]))).retain 1 (p := diffP [] c.s) (by rw [diff_new, List.length_map]; exact hs c (by simp)))
    exact h.mono (by simp only [List.length_append, List.length_singleton]; omega) (Nat.le_refl _)
end Go.Proofs.YtipoeidmblnbbaaGreatDoor
/- The walks of cells.Same and cells.Text. -/
namespace Go.Proofs.YtipoeidmblnbbaaGreatDoor
open Go.RowKit
set_option linter.unusedVariables false
set_option linter.unusedSimpArgs false

set_option maxRecDepth 100000 in
set_option maxHeartbeats 400000 in
theorem sameCl1_any (r1 r2 : Int) (p1 p2 : List At) (A1 A2 : Option Addr) (c1 c2 : Nat) (w : World) (h1 : RdAt w w.heap.size A1 p1) (h2 : RdAt w w.heap.size A2 p2) (b1 : p1.length ≤ 140737488355328) (b2 : p2.length ≤ 140737488355328) :
    Calls Tryz.prog 56 #[.agg #[.int .i32 r1, .slice A1 p1.length c1], .agg #[.int .i32 r2, .slice A2 p2.length c2]] w fun e w' => e = .returned (.bool (decide ((⟨r1, p1⟩ : Cl) = ⟨r2, p2⟩))) ∧ Below w.heap.size w w' := by
  have y1 := ext_alloc w (.cells #[.int .i32 r1, .slice A1 p1.length c1] 59)
  have y2 := ext_alloc (w.alloc (.cells #[.int .i32 r1, .slice A1 p1.length c1] 59)) (.cells #[.int .i32 r2, .slice A2 p2.length c2] 59)
  have yy := ext_trans y1 y2
  have q1 := h1.ext yy
  have q2 := h2.ext yy
  obtain ⟨a0, a1⟩ := box_cl ((y2.block w.heap.size (by simp)).trans (heap_alloc_new w (.cells #[.int .i32 r1, .slice A1 p1.length c1] 59)))
  by_cases hr : r1 = r2
  · subst hr
    have HB : Hid (decide ((⟨r1, p1⟩ : Cl) = ⟨r1, p2⟩) = decide (p1 = p2)) := Lib.hid (by by_cases h : p1 = p2 <;> simp [h])
    rw [HB.out]
    clear y1 y2 h1 h2
    go_enter Tryz.func56, Tryz.ntmps56
    go_wp2_with (go_at_call 57; refine Hid.out ?_)
    refine Lib.hid ?_
    refine (attrsSame_any A1 A2 p1.length p2.length c1 c2 p1 p2 _ rfl rfl q1 q2 b1 b2).mono ?_
    rintro e w' ⟨rfl, q, rfl⟩
    cases hd : decide (p1 = p2)
    all_goals
      have HD := Lib.hid hd
      clear hd
      go_wp2_with (fail)
      go_ret
      exact ⟨ret_bool HD.out.symm, below_drewN yy q⟩
  · have HB : Hid (decide ((⟨r1, p1⟩ : Cl) = ⟨r2, p2⟩) = false) := Lib.hid (decide_eq_false (fun e => hr (by injection e)))
    rw [HB.out]
    have hne : (r1 == r2) = false := beq_eq_false_iff_ne.2 hr
    clear y1 y2 h1 h2 hr
    go_enter Tryz.func56, Tryz.ntmps56
    go_wp2_with (fail)
    go_ret
    exact ⟨rfl, yy⟩

set_option maxRecDepth 100000 in
set_option maxHeartbeats 800000 in
theorem equalCl_any (A B : Option Addr) (n m c d : Nat) (l k : List ClS) (w : World) (hn : n = l.length) (hm : m = k.length) (h1 : RdCl w w.heap.size A l) (h2 : RdCl w w.heap.size B k) (hb : n ≤ 100000000) (hb2 : m ≤ 100000000)
    (hs1 : ∀ x ∈ l, x.c.s.length ≤ 140737488355328) (hs2 : ∀ x ∈ k, x.c.s.length ≤ 140737488355328) :
    Calls Tryz.prog 55 #[.slice A n c, .slice B m d, .func (.func 56) #[] #[]] w fun e w' => e = .returned (.bool (decide (clsOf l = clsOf k))) ∧ Below w.heap.size w w' := by
  have N := Lib.hid hn
  have M := Lib.hid hm
  have H1 := Lib.hid h1
  have H2 := Lib.hid h2
  have S1 := Lib.hid hs1
  have S2 := Lib.hid hs2
  generalize hR : decide (clsOf l = clsOf k) = R
  have HR := Lib.hid hR
  clear hn hR hm h1 h2 hs1 hs2
  have HL : Hid (∀ x : List ClS, (clsOf x).length = x.length) := Lib.hid (fun x => by unfold clsOf; simp)
  by_cases hnm : (n : Int) = m
  · have hnm' : n = m := by omega
    subst hnm'
    clear hnm
    go_enter Tryz.func55, Tryz.ntmps55
    go_wp2_with (fail)
    go_loopg [17] n (fun g iv wr => ∃ i : Nat, i ≤ n ∧ g = n - i ∧ iv = .int .i64 (i : Int) ∧ Below w.heap.size w wr ∧ Hid (decide (clsOf (l.drop i) = clsOf (k.drop i)) = R))
    case atStart => exact ⟨0, by omega, rfl, rfl, Below.refl _ _, Lib.hid (by rw [List.drop_zero, List.drop_zero]; exact HR.out)⟩
    case round =>
      obtain ⟨i, hi, hg, rfl, y, HI⟩ := hrel
      have HG := Lib.hid hg
      clear hg HR
      by_cases hlt : i < n
      · have hl1 : i < l.length := by have := N.out; omega
        have hl2 : i < k.length := by have := M.out; omega
        obtain ⟨ad, x, rfl, _, hd1, hx1, hc1⟩ := (H1.out.ext y).1.el hl1
        obtain ⟨ad2, x', rfl, had2, hd2, hx2, hc2⟩ := (H2.out.ext y).1.el hl2
        have hm1 := List.mem_of_getElem? hx1
        have hm2 := List.mem_of_getElem? hx2
        have p1 := Lib.hid (H1.out.2 x hm1)
        have p2 := Lib.hid (H2.out.2 x' hm2)
        have b1 := Lib.hid (S1.out x hm1)
        have b2 := Lib.hid (S2.out x' hm2)
        have HI' : Hid (decide (x.c :: clsOf (l.drop (i + 1)) = x'.c :: clsOf (k.drop (i + 1))) = R) := Lib.hid (by rw [← HI.out, hd1, hd2]; rfl)
        clear HI hd1 hd2 hx1 hx2 hm1 hm2
        obtain ⟨⟨r1, s1⟩, As1, cs1⟩ := x
        obtain ⟨⟨r2, s2⟩, As2, cs2⟩ := x'
        obtain ⟨z0, z1⟩ := cl_cells hc1
        have ya := ext_alloc wr (.cells #[.int .i32 r1, .slice As1 s1.length cs1] 59)
        obtain ⟨u0, u1⟩ := cl_cells (hc2.keep (w' := wr.alloc (.cells #[.int .i32 r1, .slice As1 s1.length cs1] 59)) fun q hq => ya.cell (by rw [hq, add_block]; exact had2))
        clear hc1 hc2 hl1 hl2 had2
        have yb := ext_alloc (wr.alloc (.cells #[.int .i32 r1, .slice As1 s1.length cs1] 59)) (.cells #[.int .i32 r2, .slice As2 s2.length cs2] 59)
        have y3 := Lib.hid (ext_trans y (ext_trans ya yb))
        clear ya yb
        go_wp2_with (go_at_call 56; refine Hid.out ?_)
        refine Lib.hid ?_
        refine (sameCl1_any r1 r2 s1 s2 As1 As2 cs1 cs2 _ (p1.out.ext y3.out) (p2.out.ext y3.out) b1.out b2.out).mono ?_
        rintro e w' ⟨rfl, y4⟩
        have yy := ext_trans y3.out y4
        have hw2 : IntKind.i64.wrap ((i:Int) + 1) = (i : Int) + 1 := IntWalk.i64_in _ (by omega)
        by_cases hxy : (⟨r1, s1⟩ : Cl) = ⟨r2, s2⟩
        · have HXY := Lib.hid hxy
          rw [decide_eq_true hxy]
          clear hxy
          go_wp2_with (fail)
          go_roundg (n - (i + 1))
          case measure => have := HG.out; omega
          case rel => exact ⟨i + 1, by omega, rfl, by go_num, yy, Lib.hid (by rw [← HI'.out]; simp only [List.cons.injEq, HXY.out, true_and])⟩
        · have HXY := Lib.hid hxy
          rw [decide_eq_false hxy]
          clear hxy
          go_wp2_with (fail)
          go_ret
          exact ⟨ret_bool (by rw [← HI'.out]; exact (decide_eq_false fun e => HXY.out (List.cons.inj e).1).symm), yy⟩
      · go_wp2_with (fail)
        go_ret
        exact ⟨ret_bool (by rw [← HI.out, List.drop_eq_nil_of_le (by have := N.out; omega), List.drop_eq_nil_of_le (by have := M.out; omega)]; rfl), y⟩
  · have hne : ((n : Int) == m) = false := beq_eq_false_iff_ne.2 hnm
    go_enter Tryz.func55, Tryz.ntmps55
    go_wp2_with (fail)
    go_ret
    refine ⟨ret_bool ?_, Below.refl _ _⟩
    rw [← HR.out]
    refine (decide_eq_false fun e => ?_).symm
    have h3 := N.out
    have h4 := M.out
    have h5 := congrArg List.length e
    rw [HL.out, HL.out] at h5
    omega
set_option maxHeartbeats 400000 in
theorem cellsSame_any (A B : Option Addr) (n m c d : Nat) (l k : List ClS) (w : World) (hn : n = l.length) (hm : m = k.length) (h1 : RdCl w w.heap.size A l) (h2 : RdCl w w.heap.size B k) (hb : n ≤ 100000000) (hb2 : m ≤ 100000000)
    (hs1 : ∀ x ∈ l, x.c.s.length ≤ 140737488355328) (hs2 : ∀ x ∈ k, x.c.s.length ≤ 140737488355328) :
    Calls Tryz.prog 19 #[.slice A n c, .slice B m d] w fun e w' => e = .returned (.bool (decide (clsOf l = clsOf k))) ∧ Below w.heap.size w w' := by
  have H := Lib.hid (equalCl_any A B n m c d l k w hn hm h1 h2 hb hb2 hs1 hs2)
  clear hn hm h1 h2 hs1 hs2
  generalize decide (clsOf l = clsOf k) = R at *
  go_enter Tryz.func19, Tryz.ntmps19
  go_wp2_with (go_at_call 55; refine Hid.out ?_)
  refine Lib.hid ?_
  refine H.out.mono ?_
  rintro e w' ⟨rfl, y⟩
  go_wp2_with (fail)
  go_ret
  exact ⟨rfl, y⟩

end Go.Proofs.YtipoeidmblnbbaaGreatDoor
/- A literal slice is a slice of the call's own. -/
namespace Go.Proofs.YtipoeidmblnbbaaGreatDoor
open Go.RowKit
set_option linter.unusedVariables false

theorem Ow.new {α : Type} {enc : α → List Value} {size : Nat} (hs : ∀ a, (enc a).length = size) (w : World) (e : TypeId) (l : List α) {cs : Array Value} (hc : cs.toList = l.flatMap enc) {n b B : Nat} (hn : n = l.length) (hm : n ≤ maxLen) (hB : B ≤ w.heap.size) (hb : b = w.heap.size) :
    Ow enc size e (w.alloc (.cells cs e)) B (.slice (some ⟨b, 0, none⟩) n n) l := by
  subst hb
  subst hn
  refine .inr ⟨by rw [flat_len hs], .inr ⟨w.heap.size, l.length, cs, rfl, hB, heap_alloc_new w (.cells cs e), Nat.le_refl _, hm, ?_, ?_⟩⟩
  · rw [← Array.length_toList, hc, flat_len hs]
  · rw [hc]
    exact List.take_of_length_le (by rw [flat_len hs]; exact Nat.le_refl _)
end Go.Proofs.YtipoeidmblnbbaaGreatDoor
/- The walks of fragment.May, Cut, Paste and Part, and of cells.Blank. -/
namespace Go.Proofs.YtipoeidmblnbbaaGreatDoor
open Go.RowKit
set_option linter.unusedVariables false
set_option linter.unusedSimpArgs false

def blankC : List Cl := [⟨10, []⟩]
set_option maxHeartbeats 400000 in
theorem blank_any (w : World) : Calls Tryz.prog 32 #[] w (NewCls blankC w) := by
  go_enter Tryz.func32, Tryz.ntmps32
  go_wp2_with (fail)
  go_ret
  refine ⟨some ⟨w.heap.size, 0, none⟩, 1, [⟨⟨10, []⟩, none, 0⟩], rfl, rfl, Ow.new (n := 1) (enc := ClS.enc) (size := 2) ClS.enc_len w 59 [⟨⟨10, []⟩, none, 0⟩] rfl rfl (by unfold maxLen; omega) (Nat.le_refl _) rfl, fun z hz => ?_, ext_alloc w _⟩
  simp only [List.mem_cons, List.not_mem_nil, or_false] at hz
  subst hz
  exact ⟨Ow.nil _ _, fun k hk => by cases hk⟩
/-- the cells of a cut -/
def cutC (d : List Cl) (i j : Int) : List Cl := if i < 0 ∨ j < i ∨ (d.length : Int) < j then [] else (d.drop i.toNat).take (j.toNat - i.toNat)
set_option maxRecDepth 100000 in
set_option maxHeartbeats 800000 in
theorem cut_any (A : Option Addr) (n c : Nat) (d : List ClS) (i j : Int) (w : World) (hn : n = d.length) (hc : n ≤ c) (h : RdCl w w.heap.size A d) (hb : n ≤ 100000000) (hs : ∀ x ∈ d, x.c.s.length ≤ 100000000) :
    Calls Tryz.prog 15 #[.slice A n c, .int .i64 i, .int .i64 j] w (NewCls (cutC (clsOf d) i j) w) := by
  have N := Lib.hid hn
  have HR := Lib.hid h
  have HS := Lib.hid hs
  clear h hs
  have none_ : ∀ v, NewCls [] v (.returned (.slice none 0 0)) v := fun v => ⟨none, 0, [], rfl, rfl, Ow.nil _ _, (fun x hx => by cases hx), Below.refl _ _⟩
  by_cases h0 : i < 0
  · rw [show cutC (clsOf d) i j = [] from if_pos (.inl h0)]
    go_enter Tryz.func15, Tryz.ntmps15
    go_wp2_with (fail)
    go_ret
    exact none_ _
  by_cases h1 : j < i
  · rw [show cutC (clsOf d) i j = [] from if_pos (.inr (.inl h1))]
    go_enter Tryz.func15, Tryz.ntmps15
    go_wp2_with (fail)
    go_ret
    exact none_ _
  by_cases h2 : (n : Int) < j
  · rw [show cutC (clsOf d) i j = [] from if_pos (.inr (.inr (by rw [clsOf_len, ← hn]; exact h2)))]
    go_enter Tryz.func15, Tryz.ntmps15
    go_wp2_with (fail)
    go_ret
    exact none_ _
  obtain ⟨a, rfl⟩ : ∃ a : Nat, i = a := ⟨i.toNat, by omega⟩
  obtain ⟨b, rfl⟩ : ∃ a : Nat, j = a := ⟨j.toNat, by omega⟩
  have hab : a ≤ b := by omega
  have hbn : b ≤ n := by omega
  obtain ⟨A8, hA8⟩ : ∃ X, advS A c a 2 = X := ⟨_, rfl⟩
  obtain ⟨n8, hn8⟩ : ∃ X, b - a = X := ⟨_, rfl⟩
  obtain ⟨c8, hc8⟩ : ∃ X, c - a = X := ⟨_, rfl⟩
  have sl1 : ∀ W, (Instr.slice 23 (.slice A n c) (some (.int .i64 (a : Int))) (some (.int .i64 (b : Int))) none).run Tryz.prog W = .ok (.slice A8 n8 c8) W := sl_both Tryz.slCl Tryz.elCl size_cl rfl rfl hA8 hn8 hc8 hab (by omega)
  have R8 : Hid (RdCl w w.heap.size A8 ((d.drop a).take n8)) := Lib.hid ((HR.out.from hA8 (by omega) (by omega)).take n8)
  have L8 : Hid (n8 = ((d.drop a).take n8).length) := Lib.hid (by rw [List.length_take, List.length_drop]; omega)
  have E8 : Hid (cutC (clsOf d) a b = clsOf ((d.drop a).take n8)) := Lib.hid (by
    unfold cutC
    rw [if_neg (by rw [clsOf_len, ← hn]; omega), clsOf_take, clsOf_drop, ← hn8]; rfl)
  have B8 : Hid (n8 ≤ 100000000) := Lib.hid (by omega)
  rw [E8.out]
  clear hA8 hn8 hc8 hn hc hb
  go_enter Tryz.func15, Tryz.ntmps15
  go_wp2_with (go_at_call 20; refine Hid.out ?_)
  refine Lib.hid ?_
  refine (copyCells_any A8 n8 c8 _ w L8.out R8.out B8.out (fun x hx => HS.out x (List.mem_of_mem_drop (List.mem_of_mem_take hx)))).mono ?_
  rintro e w1 ⟨A1, k1, L, rfl, hL, oL, pL, yL⟩
  have HN : Hid (NewCls (clsOf ((d.drop a).take n8)) w (.returned (.slice A1 L.length k1)) w1) := Lib.hid ⟨A1, k1, L, rfl, hL, oL, pL, yL⟩
  clear hL oL pL yL
  go_wp2_with (fail)
  go_ret
  exact HN.out


theorem pasteM_new (p : Int) : InsB (mkRetain Mk.new p []) 0 := by
  unfold mkRetain
  split
  · exact InsB.new
  · exact ⟨Nat.le_refl _, fun o h => by cases h⟩
theorem paste_bnd (p : Int) (f : List Cl) (hs : ∀ c ∈ f, c.s.length ≤ 64) : MkB (pasteM p f) (2 + f.length) 64 := by
  have h0 : MkB (mkRetain Mk.new p []) 2 64 := by
    have := (MkB.new 64).retain p (p := []) (by simp)
    exact this.mono (by omega) (Nat.le_refl _)
  unfold pasteM
  generalize mkRetain Mk.new p [] = m at h0
  generalize 2 = K at h0
  induction f generalizing m K with
  | nil => exact h0
  | cons c f ih =>
    have h1 := h0.insert [c.r] (hs c (by simp))
    have h2 := ih (fun x hx => hs x (List.mem_cons_of_mem _ hx)) _ _ h1
    have e : tellM m (c :: f) = tellM (mkInsert m [c.r] c.s) f := rfl
    rw [e]
    exact h2.mono (by simp; omega) (Nat.le_refl _)
set_option maxRecDepth 100000 in
set_option maxHeartbeats 1600000 in
theorem paste_any (p : Int) (A : Option Addr) (n c : Nat) (f : List ClS) (w : World) (hn : n = f.length) (hr : RdCl w w.heap.size A f) (hb : n ≤ 100000) (hs : ∀ x ∈ f, x.c.s.length ≤ 64) :
    Calls Tryz.prog 18 #[.int .i64 p, .slice A n c] w (NewOps (mkOps (pasteM p (clsOf f))) w) := by
  have N := Lib.hid hn
  have HR := Lib.hid hr.1
  have HP := Lib.hid hr.2
  have HS := Lib.hid hs
  have HSC : Hid (∀ c ∈ clsOf f, c.s.length ≤ 64) := Lib.hid (fun c hc => by
    unfold clsOf at hc
    obtain ⟨x, hx, rfl⟩ := List.mem_map.1 hc
    exact hs x hx)
  have HK := Lib.hid (fun i => (pasteM_new p).tell ((clsOf f).take i) (fun c hc => by
    have := HSC.out c (List.mem_of_mem_take hc); omega))
  have HB := Lib.hid ((paste_bnd p (clsOf f) HSC.out).gap)
  have HBL := Lib.hid ((paste_bnd p (clsOf f) HSC.out).len)
  have HL : Hid ((clsOf f).length = n) := Lib.hid (by unfold clsOf; simp [hn])
  clear hn hr hs
  go_enter Tryz.func18, Tryz.ntmps18
  go_wp2_with (go_at_call 51; refine Hid.out ?_)
  refine Lib.hid ?_
  refine (mkNew_any w).mono ?_
  rintro e w1 ⟨rfl, hm, y1⟩
  have HM := Lib.hid hm
  have Y1 := Lib.hid y1
  clear hm y1
  have hF : ∀ k, k = w.heap.size → w.heap.size ≤ k := fun k hk => by omega
  go_wp2_with (go_at_call 52; refine Hid.out ?_)
  refine Lib.hid ?_
  refine (mkRetain_any w.heap.size none p 0 0 [] w1 (fun k => k = w.heap.size) Mk.new HM.out rfl Rd.nil (fun ad e => by cases e) (by simp) (by simp [Mk.new]) (fun o ho => by simp [Mk.new, mkGap] at ho)).mono ?_
  rintro e w2 ⟨rfl, F2, hm2, g2⟩
  have y2 := Lib.hid (Y1.out.trans (g2.below (B := w.heap.size) hF Y1.out.size))
  have low2 := Lib.hid (g2.low (B := w.heap.size) hF Y1.out.size)
  have HM2 := Lib.hid hm2
  have HR2 : Hid (Rd ClS.enc 2 w2 w2.heap.size A f ∧ OffF F2 A f.length ∧ ∀ x ∈ f, RdAt w2 w2.heap.size x.As x.c.s ∧ OffF F2 x.As x.c.s.length) := Lib.hid ⟨HR.out.ext y2.out, HR.out.offF low2.out, fun x hx => ⟨(HP.out x hx).ext y2.out, (HP.out x hx).offF low2.out⟩⟩
  clear hm2 g2
  go_wp2_with (fail)
  go_loopg [13] n (fun g iv wr => ∃ (i : Nat) (F' : Nat → Prop), i ≤ n ∧ g = n - i ∧ iv = .int .i64 (i : Int) ∧ Mkr wr F' w.heap.size (tellM (mkRetain Mk.new p []) ((clsOf f).take i)) ∧ Grow w2 F2 wr F')
  case atStart => exact ⟨0, F2, by omega, rfl, rfl, HM2.out, Grow.refl _ _⟩
  case round =>
    obtain ⟨i, F', hi, hg, rfl, hm, gr⟩ := hrel
    have HG := Lib.hid hg
    have HM := Lib.hid hm
    clear hg hm
    by_cases hlt : i < n
    · have hl1 : i < f.length := by have := N.out; omega
      obtain ⟨ad, x, rfl, had, _, hx, hc1⟩ := (HR2.out.1.grow gr HR2.out.2.1).el hl1
      have hxm := List.mem_of_getElem? hx
      have hxc : (clsOf f)[i]? = some x.c := by unfold clsOf; rw [List.getElem?_map, hx]; rfl
      have HT : Hid (tellM (mkRetain Mk.new p []) ((clsOf f).take (i + 1)) = mkInsert (tellM (mkRetain Mk.new p []) ((clsOf f).take i)) [x.c.r] x.c.s) := Lib.hid (by rw [List.take_add_one, hxc]; exact tellM_snoc _ _ _)
      have RS := Lib.hid ((HR2.out.2.2 x hxm).1.grow gr (HR2.out.2.2 x hxm).2)
      have SL := Lib.hid (HS.out x hxm)
      have KB := Lib.hid (HK.out i)
      have KL := Lib.hid (show ((clsOf f).take i).length ≤ n by rw [List.length_take]; omega)
      obtain ⟨⟨r, s⟩, As, cs⟩ := x
      obtain ⟨z0, z1⟩ := cl_cells hc1
      have yb : Below wr.heap.size wr (wr.alloc (.cells #[.int .i32 r] 21)).drew := up_drew (ext_alloc wr (.cells #[.int .i32 r] 21))
      obtain ⟨x0, x1⟩ := cl_cells (hc1.keep (w' := (wr.alloc (.cells #[.int .i32 r] 21)).drew) fun q hq => yb.cell (by rw [hq, add_block]; exact had))
      have Y := Lib.hid yb
      have MA := Lib.hid (HM.out.below yb)
      have RA := Lib.hid (RS.out.ext yb)
      have RI : Hid (RdI32 (wr.alloc (.cells #[.int .i32 r] 21)).drew (wr.alloc (.cells #[.int .i32 r] 21)).drew.heap.size (some ⟨wr.heap.size, 0, none⟩) [r]) := Lib.hid ((show RdI32 (wr.alloc (.cells #[.int .i32 r] 21)) (wr.alloc (.cells #[.int .i32 r] 21)).heap.size (some ⟨wr.heap.size, 0, none⟩) [r] from Rd.new (enc := encI32) (size := 1) encI32_len wr 21 [r] (cs := #[.int .i32 r]) rfl rfl).ext (up_drew (Below.refl _ _)))
      have HC := Lib.hid hc1
      have HAD := Lib.hid had
      have NBL : Hid (¬ F' ad.block) := Lib.hid ((HR2.out.2.1.grow HR2.out.1 gr) ad rfl (by omega))
      have S7 : Hid (s.length ≤ 10000000) := Lib.hid (by have := SL.out; simp only at this; omega)
      have KI : Hid ((tellM (mkRetain Mk.new p []) ((clsOf f).take i)).ins.length ≤ 10000000) := Lib.hid (by have := KB.out.1; have := KL.out; omega)
      have KO : Hid (∀ o ∈ (tellM (mkRetain Mk.new p []) ((clsOf f).take i)).ins, o.s.length ≤ 10000000 ∧ o.r.length ≤ 100000000) := Lib.hid (fun o ho => ⟨(KB.out.2 o ho).1, by have := (KB.out.2 o ho).2.1; have := KL.out; omega⟩)
      have hlt' : (i : Int) < (n : Int) := by omega
      have hw2 : IntKind.i64.wrap ((i:Int) + 1) = (i : Int) + 1 := IntWalk.i64_in _ (by omega)
      clear hx hxm hxc hl1 hc1 had yb
      go_wp2_with (fail)
      go_region_held3 (fun w' => w'.cell? (ad.add (i * 2)) = some (.int .i32 r) ∧ w'.cell? { block := (ad.add (i * 2)).block, off := (ad.add (i * 2)).off + 1 } = some (.slice As s.length cs)) (go_keep) (first
        | (go_at_call 53
           with_reducible refine (mkInsert_any w.heap.size (some ⟨wr.heap.size, 0, none⟩) As 1 1 s.length cs [r] s ((wr.alloc (.cells #[.int .i32 r] 21)).drew) F' (tellM (mkRetain Mk.new p []) ((clsOf f).take i)) MA.out rfl rfl RI.out RA.out (by decide) S7.out KI.out KO.out).mono ?_
           rintro e w3 ⟨rfl, F3, hm3, g3⟩
           obtain ⟨y0, y1⟩ := cl_cells (HC.out.keep (w' := w3) fun q hq => by
             have hb := ((Grow.of Y.out).trans g3).block ad.block HAD.out NBL.out
             simp only [World.cell?]
             rw [show q.block = ad.block from by rw [hq, add_block], hb])))
      have gg := gr.trans ((Grow.of Y.out).trans g3)
      rw [← HT.out] at hm3
      have HM3 := Lib.hid hm3
      clear hm3
      go_wp2_with (fail)
      go_roundg (n - (i + 1))
      case measure => have := HG.out; omega
      case rel => exact ⟨i + 1, F3, by omega, rfl, by go_num, HM3.out, gg⟩
    · have hin : i = n := by omega
      subst hin
      have hlt' : ¬ (i : Int) < (i : Int) := by omega
      have hm := HM.out
      rw [List.take_of_length_le (by rw [HL.out]; exact Nat.le_refl _)] at hm
      have HMF : Hid (Mkr wr F' w.heap.size (pasteM p (clsOf f))) := Lib.hid hm
      have y34 := Lib.hid (y2.out.trans (gr.below (B := w.heap.size) low2.out y2.out.size))
      clear hm gr
      go_wp2_with (go_at_call 54; refine Hid.out ?_)
      refine Lib.hid ?_
      refine (mkOps_any _ wr F' (pasteM p (clsOf f)) HMF.out (by have := HBL.out; have := HL.out; omega) (fun o ho => by obtain ⟨h1, h2, h3⟩ := HB.out.2 o ho; have := HL.out; exact ⟨by omega, by omega, by omega⟩)).mono ?_
      intro e w5 hN
      have hN2 := hN.late y34.out
      obtain ⟨A2, c2, l2, rfl, hM⟩ := hN2
      go_wp2_with (fail)
      go_ret
      exact ⟨A2, c2, l2, rfl, hM⟩
set_option maxRecDepth 100000 in
set_option maxHeartbeats 1600000 in
theorem fragMay_any (s : Nat) (l : List Ky) (A : Option Addr) (n c : Nat) (f : List ClS) (w : World) (hn : n = f.length) (h : RdCl w w.heap.size A f) (hb : n ≤ 90000) (hS : Sch w s l)
    (hcs : ∀ x ∈ f, x.c.s.length ≤ 100000000 ∧ okVr x.c.s) (hT : Lib.Utf8Tabs 1 2 w) :
    Calls Tryz.prog 16 #[.pointer (some ⟨s, 0, none⟩), .slice A n c] w fun e w' => e = .returned (.int .i64 (mayD l (clsOf f ++ blankC))) ∧ Below w.heap.size w w' := by
  have N := Lib.hid hn
  have HR := Lib.hid h
  have HS := Lib.hid hS
  have HCS := Lib.hid hcs
  have HT := Lib.hid hT
  obtain ⟨md, hmd⟩ : ∃ X, mayD l (clsOf f ++ blankC) = X := ⟨_, rfl⟩
  rw [hmd]
  have HMD := Lib.hid hmd
  clear hn h hS hcs hT hmd
  go_enter Tryz.func16, Tryz.ntmps16
  go_wp2_with (go_at_call 20; refine Hid.out ?_)
  refine Lib.hid ?_
  refine (copyCells_any A n c f w N.out HR.out (by omega) (fun x hx => (HCS.out x hx).1)).mono ?_
  rintro e w1 ⟨A1, k1, L, rfl, hL, oL, pL, yL⟩
  have OL := Lib.hid oL
  have PL := Lib.hid pL
  have YL := Lib.hid yL
  have EL := Lib.hid hL
  clear oL pL yL hL
  go_wp2_with (go_at_call 32; refine Hid.out ?_)
  refine Lib.hid ?_
  refine (blank_any w1).mono ?_
  rintro e w2 ⟨A2, k2, B, rfl, hB, oB, pB, yB⟩
  have OB := Lib.hid oB
  have PB := Lib.hid pB
  have YB := Lib.hid yB
  have EB := Lib.hid hB
  have LEN : Hid (L.length = n ∧ B.length = 1) := Lib.hid ⟨by rw [← clsOf_len, EL.out, clsOf_len, ← N.out], by rw [← clsOf_len, hB]; rfl⟩
  have OL2 := Lib.hid (OL.out.below yB (Nat.le_refl _))
  have CB := Lib.hid (rd_cells oB pB)
  have YL2 : Hid (Below w.heap.size w w2) := Lib.hid (ext_trans YL.out yB)
  have PL2 : Hid (∀ z ∈ L, PartC w2 w.heap.size (.slice A1 L.length k1) z) := Lib.hid (fun z hz => (PL.out z hz).below yB)
  clear oB pB yB hB
  go_wp2_with (first
    | (at_builtin; refine app_cs (m := B) rfl (.tmp 7) (.tmp 8) rfl rfl OL2.out _ A2 k2 B.length rfl rfl CB.out.1.1 (by have := LEN.out; omega) YL2.out.size ?_; intro v' w3 hown' hgr hv'; obtain ⟨A3, k3, hv3, _, _⟩ := hown'.form; subst hv3)
    | (go_at_call 14; refine Hid.out ?_))
  refine Lib.hid ?_
  have y3 : Below w.heap.size w w3 := below_app YL2.out YL2.out.size OL2.out (Nat.le_refl _) hgr
  have Y3 := Lib.hid y3
  have LAP : Hid ((L ++ B).length = L.length + B.length) := Lib.hid List.length_append
  have EAP : Hid (clsOf (L ++ B) = clsOf f ++ blankC) := Lib.hid (by rw [← EL.out, ← EB.out]; unfold clsOf; rw [List.map_append])
  have hB0 : ∀ z ∈ B, z.c.s = [] := fun z hz => by
    have hm : z.c ∈ clsOf B := by unfold clsOf; exact List.mem_map_of_mem hz
    rw [EB.out] at hm
    have e : z.c = ⟨10, []⟩ := by simpa [blankC] using hm
    rw [e]
  have RA : Hid (RdCl w3 w3.heap.size A3 (L ++ B)) := Lib.hid ⟨hown'.rd ClS.enc_len, fun z hz => by
    rcases List.mem_append.1 hz with hz | hz
    · exact ((PL2.out z hz).app hgr hv').1.rd At.enc_len
    · rw [hB0 z hz]; exact Rd.nil⟩
  have QA : Hid (∀ z ∈ L ++ B, z.c.s.length ≤ 100000000 ∧ okVr z.c.s) := Lib.hid (fun z hz => by
    rcases List.mem_append.1 hz with hz | hz
    · have hm : z.c ∈ clsOf L := by unfold clsOf; exact List.mem_map_of_mem hz
      rw [EL.out] at hm
      obtain ⟨x, hx, e⟩ := List.mem_map.1 hm
      rw [← e]; exact HCS.out x hx
    · rw [hB0 z hz]; exact ⟨by simp, fun c hc => by cases hc⟩)
  obtain ⟨nA, hnA⟩ : ∃ X, (L ++ B).length = X := ⟨_, rfl⟩
  have NA := Lib.hid hnA
  rw [hnA] at LAP
  rw [← LAP.out]
  clear hown' hgr hv' y3 hB0 hnA
  refine (mayCells_any s l A3 nA k3 (L ++ B) w3 NA.out.symm RA.out (by have := LAP.out; have := LEN.out; omega) (HS.out.ext Y3.out) QA.out (Utf8Tabs_below HT.out Y3.out)).mono ?_
  rw [EAP.out, HMD.out]
  rintro e w4 ⟨rfl, y4⟩
  have yy := ext_trans Y3.out y4
  go_wp2_with (fail)
  go_ret
  exact ⟨rfl, yy⟩
/-- how many newlines -/
def linesC (f : List Cl) : Nat := (f.filter (fun c => c.r == 10)).length
theorem linesC_snoc (f : List Cl) (c : Cl) : linesC (f ++ [c]) = linesC f + (if (c.r == 10) = true then 1 else 0) := by
  unfold linesC
  rw [List.filter_append, List.length_append]
  cases h : (c.r == 10) <;> simp [h]
theorem linesC_le (f : List Cl) : linesC f ≤ f.length := by unfold linesC; exact List.length_filter_le _ _
set_option maxRecDepth 100000 in
set_option maxHeartbeats 800000 in
theorem part26_any (A : Option Addr) (n c : Nat) (f : List ClS) (w : World) (hn : n = f.length) (h : RdCs w w.heap.size A f) (hb : n ≤ 140737488355328) :
    Calls Tryz.prog 21 #[.slice A n c] w fun e w' => e = .returned (.tuple #[.int .i64 (linesC (clsOf f) : Int), .int .i64 (n : Int)]) ∧ ∃ d, w' = w.drewN d := by
  have N := Lib.hid hn
  have LF : Hid ((clsOf f).length = n) := Lib.hid (by rw [clsOf_len, hn])
  clear hn
  go_enter Tryz.func21, Tryz.ntmps21
  go_wp2_with (fail)
  go_loopg [2, 7] n (fun g av iv wr => ∃ (m a : Nat), m ≤ n ∧ g = n - m ∧ a = linesC ((clsOf f).take m) ∧ av = .int .i64 (a : Int) ∧ iv = .int .i64 (m : Int) ∧ ∃ d, wr = w.drewN d)
  case atStart => exact ⟨0, 0, by omega, rfl, rfl, rfl, rfl, 0, rfl⟩
  case round =>
    obtain ⟨m, a, hm, hg, ha, rfl, rfl, d, rfl⟩ := hrel
    have HG := Lib.hid hg
    have HA := Lib.hid ha
    have AB : a ≤ n := by have h1 := linesC_le ((clsOf f).take m); rw [← ha, List.length_take] at h1; omega
    clear hg ha
    by_cases hlt : m < n
    · have hl1 : m < f.length := by have := N.out; omega
      obtain ⟨ad, x, rfl, had, _, hx, hc1⟩ := h.el hl1
      have HT : Hid (linesC ((clsOf f).take (m + 1)) = a + (if (x.c.r == 10) = true then 1 else 0)) := Lib.hid (by
        rw [List.take_add_one, clsOf_at hx, HA.out]; exact linesC_snoc _ _)
      obtain ⟨⟨r, s⟩, As, cs⟩ := x
      simp only at HT
      obtain ⟨z0, z1⟩ := cl_cells hc1
      have hw2 : IntKind.i64.wrap ((m:Int) + 1) = (m : Int) + 1 := IntWalk.i64_in _ (by omega)
      have hw3 : IntKind.i64.wrap ((a:Int) + 1) = (a : Int) + 1 := IntWalk.i64_in _ (by omega)
      clear hx hl1 hc1 had
      by_cases hr : r = 10
      · subst hr
        have HT2 : Hid (linesC ((clsOf f).take (m + 1)) = a + 1) := Lib.hid HT.out
        go_wp2_with (fail)
        go_roundg (n - (m + 1))
        case measure => have := HG.out; omega
        case rel => exact ⟨m + 1, a + 1, by omega, rfl, HT2.out.symm, by go_num, by go_num, _, rfl⟩
      · have hr' : (r == 10) = false := beq_eq_false_iff_ne.2 hr
        have HT2 : Hid (linesC ((clsOf f).take (m + 1)) = a) := Lib.hid (by have := HT.out; rw [hr'] at this; exact this)
        go_wp2_with (fail)
        go_roundg (n - (m + 1))
        case measure => have := HG.out; omega
        case rel => exact ⟨m + 1, a, by omega, rfl, HT2.out.symm, rfl, by go_num, _, rfl⟩
    · have e : a = linesC (clsOf f) := by have := HA.out; rwa [List.take_of_length_le (by rw [LF.out]; omega)] at this
      clear HA
      go_wp2_with (fail)
      refine bodyPost_ret (v := .tuple #[.int .i64 (a : Int), .int .i64 (n : Int)]) (by simp [results, Tryz.results21, go_sem]) rfl ?_
      subst e
      exact ⟨rfl, _, rfl⟩
end Go.Proofs.YtipoeidmblnbbaaGreatDoor
