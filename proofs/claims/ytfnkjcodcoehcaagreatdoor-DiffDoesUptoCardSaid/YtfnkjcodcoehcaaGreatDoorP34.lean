/- Merged texts: DiffOk, LeadW, RefSet. -/
import Derived.Test.YtfnkjcodcoehcaaGreatDoorP33
import Derived.Test.YtfnkjcodcoehcaaGreatDoorP14
import Derived.Test.YtfnkjcodcoehcaaGreatDoorP23
import Derived.Test.YtfnkjcodcoehcaaGreatDoorP13
import Derived.Test.YtfnkjcodcoehcaaGreatDoorP11
import Derived.Test.YtfnkjcodcoehcaaGreatDoorP10
namespace Go.Proofs.YtfnkjcodcoehcaaGreatDoor
open Go.RowKit
set_option linter.unusedVariables false
set_option linter.unusedSimpArgs false

/-- ops of the call's own, and no error -/
def NewOpsOk (o : List Opd) (w : World) (e : Ending) (w' : World) : Prop :=
  ∃ A c l, e = .returned (.tuple #[.slice A l.length c, .int .i64 0]) ∧ osOf l = o ∧ OwOs w' w.heap.size (.slice A l.length c) l ∧ (∀ x ∈ l, ∃ g, PartN w' w.heap.size g x) ∧ Below w.heap.size w w'
theorem tellM_B (n : Nat) (e1 : List Cl) (he : ∀ c ∈ e1, c.s.length ≤ 128) : MkB (tellM (mkRetain Mk.new n []) e1) (2 + e1.length) 128 := by
  have h0 := (MkB.new 128).retain (n : Int) (p := []) (by simp)
  have := h0.tellD e1 he
  rwa [show 0 + 2 + e1.length = 2 + e1.length by omega] at this

set_option maxRecDepth 100000 in
set_option maxHeartbeats 6400000 in
theorem cdiff_ok (s : Nat) (l : List Ky) (A1 A2 : Option Addr) (n1 n2 c1 c2 : Nat) (d e : List ClS) (w : World) (hn1 : n1 = d.length) (hn2 : n2 = e.length) (h1 : RdCl w w.heap.size A1 d) (h2 : RdCl w w.heap.size A2 e) (k1 : n1 ≤ c1) (k2 : n2 ≤ c2)
    (b1 : n1 ≤ 100000) (b2 : n2 ≤ 100000) (hS : Sch w s l) (q1 : ∀ x ∈ d, x.c.s.length ≤ 100000000 ∧ okVr x.c.s) (q2 : ∀ x ∈ e, x.c.s.length ≤ 100000000 ∧ okVr x.c.s) (g1 : ∀ x ∈ d, x.c.s.length ≤ x.cs ∧ x.cs ≤ maxLen)
    (hT : Lib.Utf8Tabs 1 2 w) (m1 : mayD l (clsOf d) = 0) (m2 : mayD l (clsOf e) = 0) :
    Calls Tryz.prog 28 #[.pointer (some ⟨s, 0, none⟩), .slice A1 n1 c1, .slice A2 n2 c2] w (NewOpsOk (mkOps (diffM (clsOf d) (clsOf e))) w) := by
  have N1 := Lib.hid hn1
  have N2 := Lib.hid hn2
  have H1 := Lib.hid h1
  have H2 := Lib.hid h2
  have Q1 := Lib.hid q1
  have Q2 := Lib.hid q2
  have G1 := Lib.hid g1
  have M1 := Lib.hid m1
  have M2 := Lib.hid m2
  obtain ⟨_, D1, D2⟩ := mayD_iff.1 m1
  obtain ⟨_, E1, E2⟩ := mayD_iff.1 m2
  have dne : clsOf d ≠ [] := by obtain ⟨t, c, h, _⟩ := D2; rw [h]; simp
  have ene : clsOf e ≠ [] := by obtain ⟨t, c, h, _⟩ := E2; rw [h]; simp
  have p1 : 1 ≤ n1 := by have := List.length_pos_iff.2 dne; rw [clsOf_len] at this; omega
  have p2 : 1 ≤ n2 := by have := List.length_pos_iff.2 ene; rw [clsOf_len] at this; omega
  have SD : Hid (∀ x ∈ d, x.c.s.length ≤ 64 ∧ riseA x.c.s = true) := Lib.hid (fun x hx => by
    obtain ⟨_, h2, _⟩ := D1 x.c (by unfold clsOf; exact List.mem_map_of_mem hx)
    obtain ⟨h3, h4, _⟩ := mayS_zero h2
    exact ⟨h3, h4⟩)
  have SE : Hid (∀ x ∈ e, x.c.s.length ≤ 64 ∧ riseA x.c.s = true) := Lib.hid (fun x hx => by
    obtain ⟨_, h2, _⟩ := E1 x.c (by unfold clsOf; exact List.mem_map_of_mem hx)
    obtain ⟨h3, h4, _⟩ := mayS_zero h2
    exact ⟨h3, h4⟩)
  have DNE := Lib.hid dne
  have ENE := Lib.hid ene
  clear hn1 hn2 h1 h2 q1 q2 g1 m1 m2 D1 D2 E1 E2 dne ene
  go_enter Tryz.func28, Tryz.ntmps28
  go_wp2_with (first
    | (go_at_call 56; with_reducible refine (mayCells_any s l A1 n1 c1 d w N1.out H1.out (by omega) hS Q1.out hT).mono ?_; rw [M1.out]; rintro r w1 ⟨rfl, y1⟩; have Y1 := Lib.hid y1; clear y1)
    | (go_at_call 56; refine (mayCells_any s l A2 n2 c2 e w1 N2.out (H2.out.ext Y1.out) (by omega) (hS.ext Y1.out) Q2.out (Utf8Tabs_below hT Y1.out)).mono ?_; rw [M2.out]; rintro r w2 ⟨rfl, y2⟩; have Y2 := Lib.hid (ext_trans Y1.out y2); clear y2)
    | (go_at_call 80; refine Hid.out ?_))
  refine Lib.hid ?_
  refine (begin_any A1 A2 n1 n2 c1 c2 d e w2 N1.out N2.out (H1.out.ext Y2.out) (H2.out.ext Y2.out) k1 k2 (by omega) (by omega) p1 p2 (fun x hx => by have := (SD.out x hx).1; omega) (fun x hx => by have := (SE.out x hx).1; omega)).mono ?_
  have BL := Lib.hid (begD_le DNE.out ENE.out)
  have hdm : diffM (clsOf d) (clsOf e) = retsM (diffM1 (begD (clsOf d) (clsOf e)) ((clsOf d).drop (begD (clsOf d) (clsOf e))) ((clsOf e).drop (begD (clsOf d) (clsOf e)))) _ := rfl
  have HDM := Lib.hid hdm
  clear hdm
  generalize begD (clsOf d) (clsOf e) = n at *
  rintro r w3 ⟨rfl, y3⟩
  have Y3 := Lib.hid (ext_trans Y2.out y3)
  have NL : Hid (n < n1 ∧ n < n2) := Lib.hid (by have := BL.out; rw [clsOf_len, clsOf_len, ← N1.out, ← N2.out] at this; exact this)
  clear y3
  go_wp2_with (go_at_call 74; refine Hid.out ?_)
  refine Lib.hid ?_
  refine (mkNew_any w3).mono ?_
  rintro r w4 ⟨rfl, hm, y4⟩
  have HM4 := Lib.hid hm
  have Y4 := Lib.hid (ext_trans Y3.out y4)
  obtain ⟨b, hb⟩ : ∃ b, w3.heap.size = b := ⟨_, rfl⟩
  rw [hb] at HM4
  have HB : Hid (w.heap.size ≤ b) := Lib.hid (by rw [← hb]; exact Y3.out.size)
  clear y4 hm
  rw [hb]
  clear hb
  go_wp2_with (go_at_call 75; refine Hid.out ?_)
  refine Lib.hid ?_
  refine (mkRetain_any b none n 0 0 [] w4 _ Mk.new HM4.out rfl Rd.nil OffF.zero (by omega) (by simp [Mk.new]) (fun o ho => by simp [Mk.new, mkGap] at ho)).mono ?_
  rintro r w5 ⟨rfl, F5, hm5, g5⟩
  have MI5 := Lib.hid (MkIn.out (w := w) (fun k hk => by have := HB.out; omega) Y4.out hm5 g5)
  clear hm5 g5
  -- the slices behind the beginning
  obtain ⟨A8, hA8⟩ : ∃ X, advS A1 c1 n 2 = X := ⟨_, rfl⟩
  obtain ⟨A9, hA9⟩ : ∃ X, advS A2 c2 n 2 = X := ⟨_, rfl⟩
  obtain ⟨c8, hc8⟩ : ∃ X, c1 - n = X := ⟨_, rfl⟩
  obtain ⟨c9, hc9⟩ : ∃ X, c2 - n = X := ⟨_, rfl⟩
  obtain ⟨n8, hn8⟩ : ∃ X, n1 - n = X := ⟨_, rfl⟩
  obtain ⟨n9, hn9⟩ : ∃ X, n2 - n = X := ⟨_, rfl⟩
  have sl1 : ∀ W, (Instr.slice 23 (.slice A1 n1 c1) (some (.int .i64 (n : Int))) none none).run Tryz.prog W = .ok (.slice A8 n8 c8) W := sl_from Tryz.slCl Tryz.elCl size_cl rfl hA8 hn8 hc8 (by have := NL.out; omega) k1
  have sl2 : ∀ W, (Instr.slice 23 (.slice A2 n2 c2) (some (.int .i64 (n : Int))) none none).run Tryz.prog W = .ok (.slice A9 n9 c9) W := sl_from Tryz.slCl Tryz.elCl size_cl rfl hA9 hn9 hc9 (by have := NL.out; omega) k2
  have K8 : Hid (n8 ≤ c8) := Lib.hid (by omega)
  have K9 : Hid (n9 ≤ c9) := Lib.hid (by omega)
  have B8 : Hid (n8 ≤ 100000 ∧ 1 ≤ n8) := Lib.hid (by have := NL.out; omega)
  have B9 : Hid (n9 ≤ 100000 ∧ 1 ≤ n9) := Lib.hid (by have := NL.out; omega)
  have N8 : Hid (n8 = (d.drop n).length) := Lib.hid (by rw [List.length_drop, ← N1.out]; omega)
  have N9 : Hid (n9 = (e.drop n).length) := Lib.hid (by rw [List.length_drop, ← N2.out]; omega)
  have R8 : Hid (RdCl w w.heap.size A8 (d.drop n)) := Lib.hid (H1.out.from hA8 (by have := NL.out; have := N1.out; omega) (by have := N1.out; omega))
  have R9 : Hid (RdCl w w.heap.size A9 (e.drop n)) := Lib.hid (H2.out.from hA9 (by have := NL.out; have := N2.out; omega) (by have := N2.out; omega))
  have SD8 : Hid (∀ x ∈ d.drop n, x.c.s.length ≤ 64 ∧ riseA x.c.s = true) := Lib.hid (fun x hx => SD.out x (List.mem_of_mem_drop hx))
  have SE9 : Hid (∀ x ∈ e.drop n, x.c.s.length ≤ 64 ∧ riseA x.c.s = true) := Lib.hid (fun x hx => SE.out x (List.mem_of_mem_drop hx))
  have G8 : Hid (∀ x ∈ d.drop n, x.c.s.length ≤ x.cs ∧ x.cs ≤ maxLen) := Lib.hid (fun x hx => G1.out x (List.mem_of_mem_drop hx))
  have HDM' : Hid (diffM (clsOf d) (clsOf e) = retsM (mkDelete (tellM (mkRetain Mk.new n []) (clsOf ((e.drop n).take (n9 - endD (clsOf (d.drop n)) (clsOf (e.drop n)))))) ((n8 : Int) - (endD (clsOf (d.drop n)) (clsOf (e.drop n)) : Nat)))
      ((clsOf ((d.drop n).drop (n8 - endD (clsOf (d.drop n)) (clsOf (e.drop n))))).zip (clsOf ((e.drop n).drop (n9 - endD (clsOf (d.drop n)) (clsOf (e.drop n))))))) := Lib.hid (by
    have h8 : n8 = (clsOf (d.drop n)).length := by rw [clsOf_len]; exact N8.out
    have h9 : n9 = (clsOf (e.drop n)).length := by rw [clsOf_len]; exact N9.out
    rw [clsOf_drop (d.drop n), clsOf_drop (e.drop n), clsOf_take (e.drop n), h8, h9, clsOf_drop d, clsOf_drop e]
    exact HDM.out)
  clear hA8 hA9 hc8 hc9 hn8 hn9 SD SE G1 N1 N2 H1 H2 Q1 Q2 HDM BL NL
  have EL : Hid (1 ≤ endD (clsOf (d.drop n)) (clsOf (e.drop n)) ∧ endD (clsOf (d.drop n)) (clsOf (e.drop n)) ≤ n8 ∧ endD (clsOf (d.drop n)) (clsOf (e.drop n)) ≤ n9) := Lib.hid (by
    have h1 : clsOf (d.drop n) ≠ [] := fun h => by have := congrArg List.length h; rw [clsOf_len] at this; have := N8.out; have := B8.out; simp at *; omega
    have h2 : clsOf (e.drop n) ≠ [] := fun h => by have := congrArg List.length h; rw [clsOf_len] at this; have := N9.out; have := B9.out; simp at *; omega
    have := endD_le h1 h2
    rw [clsOf_len, clsOf_len, ← N8.out, ← N9.out] at this
    exact this)
  generalize d.drop n = d8 at *
  generalize e.drop n = e9 at *
  go_wp2_with (fail)
  go_quiet (fail)
  obtain ⟨F5, mk5, low5, y5⟩ := MI5.out
  have MI6 := Lib.hid (MkIn.more low5 y5 mk5 (ext_drew _ nq))
  have Y6 := Lib.hid (ext_trans y5 (ext_drew _ nq))
  clear MI5 mk5 low5 y5 F5
  generalize World.drewN w5 nq = w6 at *
  go_wp2_with (go_at_call 81; refine Hid.out ?_)
  refine Lib.hid ?_
  refine (end_any A8 A9 n8 n9 c8 c9 d8 e9 w6 N8.out N9.out (R8.out.ext Y6.out).1 (R9.out.ext Y6.out).1 (by have := B8.out; omega) (by have := B9.out; omega) B8.out.2 B9.out.2).mono ?_
  generalize endD (clsOf d8) (clsOf e9) = k at *
  rintro r w7 ⟨rfl, q7, rfl⟩
  obtain ⟨F6, mk6, low6, y6⟩ := MI6.out
  have MI7 := Lib.hid (MkIn.more low6 y6 mk6 (ext_drew _ q7))
  have Y7 := Lib.hid (ext_trans y6 (ext_drew _ q7))
  clear MI6 mk6 low6 y6 F6 Y6
  generalize World.drewN w6 q7 = w7 at *
  obtain ⟨na, hna⟩ : ∃ X, n9 - k = X := ⟨_, rfl⟩
  obtain ⟨nb, hnb⟩ : ∃ X, n8 - k = X := ⟨_, rfl⟩
  have wa : wrap64 ((n9 : Int) - (k : Int)) = (na : Int) := by
    rw [show (n9 : Int) - (k : Int) = (na : Int) by have := EL.out; omega]; exact w64_in _ (by have := B9.out; omega)
  have wb' : wrap64 ((n8 : Int) - (k : Int)) = (nb : Int) := by
    rw [show (n8 : Int) - (k : Int) = (nb : Int) by have := EL.out; omega]; exact w64_in _ (by have := B8.out; omega)
  have sl3 : ∀ W, (Instr.slice 23 (.slice A9 n9 c9) none (some (.int .i64 (na : Int))) none).run Tryz.prog W = .ok (.slice A9 na c9) W := sl_to (l := na) Tryz.slCl Tryz.elCl size_cl rfl (by have := K9.out; omega)
  have NA : Hid (na = (e9.take na).length) := Lib.hid (by rw [List.length_take, ← N9.out]; omega)
  have RA := Lib.hid (R9.out.take na)
  have SA : Hid (∀ x ∈ e9.take na, x.c.s.length ≤ 64 ∧ riseA x.c.s = true) := Lib.hid (fun x hx => SE9.out x (List.mem_of_mem_take hx))
  have TB : Hid (∀ i, MkB (tellM (mkRetain Mk.new n []) ((clsOf (e9.take na)).take i)) (2 + na) 128) := Lib.hid (fun i => by
    have := tellM_B n ((clsOf (e9.take na)).take i) (fun c hc => by
      have hc := List.mem_of_mem_take hc
      unfold clsOf at hc
      obtain ⟨x, hx, rfl⟩ := List.mem_map.1 hc
      have := (SA.out x hx).1; omega)
    refine this.mono ?_ (Nat.le_refl _)
    have h2 : ((clsOf (e9.take na)).take i).length ≤ na := by
      rw [List.length_take, clsOf_len, ← NA.out]; exact Nat.min_le_right _ _
    omega)
  have HDM2 : Hid (diffM (clsOf d) (clsOf e) = retsM (mkDelete (tellM (mkRetain Mk.new n []) (clsOf (e9.take na))) (nb : Int)) ((clsOf (d8.drop nb)).zip (clsOf (e9.drop na)))) := Lib.hid (by
    rw [← hna, ← hnb]
    rw [show ((n8 - k : Nat) : Int) = (n8 : Int) - (k : Int) by have := EL.out; omega]
    exact HDM'.out)
  have KE : Hid (k ≤ n8 ∧ k ≤ n9 ∧ n8 = nb + k ∧ n9 = na + k ∧ 1 ≤ k) := Lib.hid (by have := EL.out; omega)
  clear hna hnb HDM' EL
  go_wp2_with (fail)
  simp only [wa]
  go_loopg [12, 47] na (fun g cv iv wr => ∃ (i : Nat), i ≤ na ∧ g = na - i ∧ iv = .int .i64 (i : Int) ∧ MkIn w wr b (tellM (mkRetain Mk.new n []) ((clsOf (e9.take na)).take i)))
  case atStart => exact ⟨0, by omega, rfl, rfl, MI7.out⟩
  case round =>
    obtain ⟨i, hi, hg, rfl, F', hm, low, y⟩ := hrel
    have HG := Lib.hid hg
    have HM := Lib.hid hm
    have LOW := Lib.hid low
    clear hg hm low MI7 Y7
    by_cases hlt : i < na
    · clear HDM2
      have hl1 : i < (e9.take na).length := by have := NA.out; omega
      obtain ⟨ad, x, rfl, had, _, hx, hc1⟩ := (RA.out.ext y).1.el hl1
      have hxm := List.mem_of_getElem? hx
      have hxc : (clsOf (e9.take na))[i]? = some x.c := clsOf_at hx
      have HT : Hid (tellM (mkRetain Mk.new n []) ((clsOf (e9.take na)).take (i + 1)) = mkInsert (tellM (mkRetain Mk.new n []) ((clsOf (e9.take na)).take i)) [x.c.r] x.c.s) := Lib.hid (by rw [List.take_add_one, hxc]; exact tellM_snoc _ _ _)
      have RS := Lib.hid ((RA.out.2 x hxm).ext y)
      have SL := Lib.hid (SA.out x hxm).1
      have KB := Lib.hid (TB.out i)
      have BN := Lib.hid (show na ≤ 100000 by have := B9.out; have := KE.out; omega)
      obtain ⟨⟨r, s'⟩, As, cs⟩ := x
      obtain ⟨z0, z1⟩ := cl_cells hc1
      clear hx hxm hxc hl1 hc1 had
      have ya := ext_alloc wr (.cells #[.int .i32 r, .slice As s'.length cs] 38)
      have yb := ext_alloc (wr.alloc (.cells #[.int .i32 r, .slice As s'.length cs] 38)) (.cells #[.int .i32 r] 21)
      have Y := Lib.hid (ext_trans ya yb)
      have hw2 : IntKind.i64.wrap ((i:Int) + 1) = (i : Int) + 1 := IntWalk.i64_in _ (by have := BN.out; omega)
      clear ya yb
      go_wp2_with (go_at_call 76; refine Hid.out ?_)
      refine Lib.hid ?_
      refine (mkInsert_any b _ As 1 1 s'.length cs [r] s' _ F' _ (HM.out.below Y.out) rfl rfl (by rw [World.size_alloc]; exact rd_one_at (enc := encI32) (size := 1) (wr.alloc (.cells #[.int .i32 r, .slice As s'.length cs] 38)) 21 r rfl (by simp)) (RS.out.ext Y.out) (by omega) (by have := SL.out; omega) (by have := KB.out.len; have := BN.out; omega)
        (fun o ho => by have := KB.out.prt o (List.mem_append_right _ ho); have := BN.out; omega)).mono ?_
      rintro r w9 ⟨rfl, F3, hm3, g3⟩
      rw [← HT.out] at hm3
      have MI9 := Lib.hid (MkIn.out LOW.out (ext_trans y Y.out) hm3 g3)
      clear hm3 g3
      go_wp2_with (fail)
      go_roundg (na - (i + 1))
      case measure => have := HG.out; omega
      case rel => exact ⟨i + 1, by omega, rfl, by go_num, MI9.out⟩
    · have hin : i = na := by omega
      subst hin
      have hm := HM.out
      rw [List.take_of_length_le (by rw [clsOf_len]; have := NA.out; omega)] at hm
      have TBE := TB.out i
      rw [List.take_of_length_le (by rw [clsOf_len]; have := NA.out; omega)] at TBE
      have TBD := Lib.hid (TBE.delete (nb : Int))
      have HM0 := Lib.hid hm
      clear hm TBE TB HM HG hlt hi
      go_wp2_with (go_at_call 82; refine Hid.out ?_)
      refine Lib.hid ?_
      refine (mkDelete_any b (nb : Int) wr F' _ HM0.out).mono ?_
      generalize mkDelete (tellM (mkRetain Mk.new n []) (clsOf (e9.take i))) (nb : Int) = M3 at *
      rintro r w9 ⟨rfl, F9, hm9, g9⟩
      have MI9 := Lib.hid (MkIn.out LOW.out y hm9 g9)
      clear hm9 g9 HM0 LOW y F' F9
      obtain ⟨Aa, hAa⟩ : ∃ X, advS A8 c8 nb 2 = X := ⟨_, rfl⟩
      obtain ⟨Ab, hAb⟩ : ∃ X, advS A9 c9 i 2 = X := ⟨_, rfl⟩
      obtain ⟨ca, hca⟩ : ∃ X, c8 - nb = X := ⟨_, rfl⟩
      obtain ⟨cb, hcb⟩ : ∃ X, c9 - i = X := ⟨_, rfl⟩
      have sl4 : ∀ W, (Instr.slice 23 (.slice A8 n8 c8) (some (.int .i64 (nb : Int))) none none).run Tryz.prog W = .ok (.slice Aa k ca) W := sl_from Tryz.slCl Tryz.elCl size_cl rfl hAa (by have := KE.out; omega) hca (by have := KE.out; omega) K8.out
      have sl5 : ∀ W, (Instr.slice 23 (.slice A9 n9 c9) (some (.int .i64 (i : Int))) none none).run Tryz.prog W = .ok (.slice Ab k cb) W := sl_from Tryz.slCl Tryz.elCl size_cl rfl hAb (by have := KE.out; omega) hcb (by have := KE.out; omega) K9.out
      have LA : Hid ((d8.drop nb).length = k) := Lib.hid (by rw [List.length_drop, ← N8.out]; have := KE.out; omega)
      have LB : Hid ((e9.drop i).length = k) := Lib.hid (by rw [List.length_drop, ← N9.out]; have := KE.out; omega)
      have Ra : Hid (RdCl w w.heap.size Aa (d8.drop nb)) := Lib.hid (R8.out.from hAa (by have := N8.out; have := KE.out; omega) (by have := N8.out; have := K8.out; omega))
      have Rb : Hid (RdCl w w.heap.size Ab (e9.drop i)) := Lib.hid (R9.out.from hAb (by have := N9.out; have := KE.out; omega) (by have := N9.out; have := K9.out; omega))
      have SDa : Hid (∀ x ∈ d8.drop nb, x.c.s.length ≤ 64 ∧ riseA x.c.s = true) := Lib.hid (fun x hx => SD8.out x (List.mem_of_mem_drop hx))
      have SEb : Hid (∀ x ∈ e9.drop i, x.c.s.length ≤ 64 ∧ riseA x.c.s = true) := Lib.hid (fun x hx => SE9.out x (List.mem_of_mem_drop hx))
      have Ga : Hid (∀ x ∈ d8.drop nb, x.c.s.length ≤ x.cs ∧ x.cs ≤ maxLen) := Lib.hid (fun x hx => G8.out x (List.mem_of_mem_drop hx))
      have BK : Hid (k ≤ 100000 ∧ i ≤ 100000) := Lib.hid (by have := B8.out; have := B9.out; have := KE.out; omega)
      clear hAa hAb hca hcb R8 R9 SD8 SE9 G8 RA SA NA
      go_wp2_with (fail)
      go_quiet (fail)
      generalize d8.drop nb = da at *
      generalize e9.drop i = eb at *
      obtain ⟨F9, mk9, low9, y9⟩ := MI9.out
      have MIa := Lib.hid (MkIn.more low9 y9 mk9 (ext_drew _ nq))
      clear MI9 mk9 low9 y9 F9
      generalize World.drewN w9 nq = wa9 at *
      have ZL : Hid (((clsOf da).zip (clsOf eb)).length = k) := Lib.hid (by rw [List.length_zip, clsOf_len, clsOf_len, LA.out, LB.out]; omega)
      have ZB : Hid (∀ j, j ≤ k → MkB (retsM M3 (((clsOf da).zip (clsOf eb)).take j)) (2 + i + 2 * j) 128) := Lib.hid (fun j hj => by
        have := retsM_B TBD.out (((clsOf da).zip (clsOf eb)).take j) (fun x hx => by
          have hx := List.mem_of_mem_take hx
          obtain ⟨h1, h2⟩ := List.of_mem_zip (a := x.1) (b := x.2) hx
          unfold clsOf at h1 h2
          obtain ⟨u, hu, e1⟩ := List.mem_map.1 h1
          obtain ⟨v, hv, e2⟩ := List.mem_map.1 h2
          rw [← e1, ← e2]
          have := diff_len (SDa.out u hu).2 (SEb.out v hv).2
          have := (SDa.out u hu).1
          have := (SEb.out v hv).1
          omega)
        rw [List.length_take, ZL.out, Nat.min_eq_left hj] at this
        exact this)
      go_wp2_with (fail)
      try simp only [wa, wb']
      go_loopg [13, 79] k (fun g xv iv wr => ∃ (j : Nat), j ≤ k ∧ g = k - j ∧ iv = .int .i64 (j : Int) ∧ MkIn w wr b (retsM M3 (((clsOf da).zip (clsOf eb)).take j)))
      case atStart => exact ⟨0, by omega, rfl, rfl, MIa.out⟩
      case round =>
        obtain ⟨j, hj, hg, rfl, F', hm, low, y⟩ := hrel
        have HG := Lib.hid hg
        have HM := Lib.hid hm
        have LOW := Lib.hid low
        clear hg hm low MIa
        by_cases hlt : j < k
        · obtain ⟨ad, x, rfl, had, _, hx, hc1⟩ := Ra.out.1.el (i := j) (by rw [LA.out]; exact hlt)
          obtain ⟨ad2, z, rfl, had2, _, hz, hc2⟩ := Rb.out.1.el (i := j) (by rw [LB.out]; exact hlt)
          have hxm := List.mem_of_getElem? hx
          have hzm := List.mem_of_getElem? hz
          have hzz : ((clsOf da).zip (clsOf eb))[j]? = some (x.c, z.c) := by rw [List.getElem?_zip_eq_some]; exact ⟨clsOf_at hx, clsOf_at hz⟩
          have HT : Hid (retsM M3 (((clsOf da).zip (clsOf eb)).take (j + 1)) = mkRetain (retsM M3 (((clsOf da).zip (clsOf eb)).take j)) 1 (diffP x.c.s z.c.s)) := Lib.hid (by rw [List.take_add_one, hzz]; exact retsM_snoc _ _ _)
          have RX := Lib.hid (Ra.out.2 x hxm)
          have RZ := Lib.hid (Rb.out.2 z hzm)
          have SX := Lib.hid (SDa.out x hxm)
          have SZ := Lib.hid (SEb.out z hzm)
          have GX := Lib.hid (Ga.out x hxm)
          have KB := Lib.hid (ZB.out j (by omega))
          have DL := Lib.hid (diff_len SX.out.2 SZ.out.2)
          obtain ⟨⟨r1, s1⟩, As1, cs1⟩ := x
          obtain ⟨⟨r2, s2⟩, As2, cs2⟩ := z
          have HC1 := Lib.hid hc1
          have HC2 := Lib.hid hc2
          have SF : Hid (∀ v, Below w.heap.size w v → v.cell? { block := (ad.add (j * 2)).block, off := (ad.add (j * 2)).off + 1 } = some (.slice As1 s1.length cs1) ∧ v.cell? { block := (ad2.add (j * 2)).block, off := (ad2.add (j * 2)).off + 1 } = some (.slice As2 s2.length cs2)) := Lib.hid (fun v hv =>
            ⟨(cl_cells (HC1.out.keep (w' := v) fun q hq => hv.cell (by rw [hq, add_block]; exact had))).2, (cl_cells (HC2.out.keep (w' := v) fun q hq => hv.cell (by rw [hq, add_block]; exact had2))).2⟩)
          obtain ⟨u0, u1⟩ := SF.out wr y
          have hw2 : IntKind.i64.wrap ((j:Int) + 1) = (j : Int) + 1 := IntWalk.i64_in _ (by have := BK.out; omega)
          have hlt' : (j : Int) < (k : Int) := by omega
          have Y := Lib.hid y
          clear hx hz hxm hzm hzz hc1 hc2 had had2
          go_wp2_with (fail)
          go_region_held3 (fun w' => w'.cell? { block := (ad.add (j * 2)).block, off := (ad.add (j * 2)).off + 1 } = some (.slice As1 s1.length cs1) ∧ w'.cell? { block := (ad2.add (j * 2)).block, off := (ad2.add (j * 2)).off + 1 } = some (.slice As2 s2.length cs2))
            (go_keep) (first
              | (go_at_call 83
                 with_reducible refine (diff_any As1 As2 s1.length s2.length cs1 cs2 s1 s2 wr.drew rfl rfl (RX.out.ext (up_drew Y.out)) (RZ.out.ext (up_drew Y.out)) (by have := SX.out.1; omega) (by have := SZ.out.1; omega) GX.out.1 GX.out.2).mono ?_
                 rintro r wd ⟨A3, k3, rfl, o3, y3⟩
                 have O3 := Lib.hid o3
                 have Y3 := Lib.hid (ext_trans (up_drew Y.out) y3)
                 have YD := Lib.hid y3
                 obtain ⟨d0, d1⟩ := SF.out _ Y3.out
                 clear o3 y3)
              | (go_at_call 75
                 with_reducible refine (mkRetain_any b A3 1 (diffP s1 s2).length k3 (diffP s1 s2) wd F' (retsM M3 (((clsOf da).zip (clsOf eb)).take j)) ((HM.out.below (up_drew (Below.refl _ _))).below YD.out) rfl (O3.out.rd Ch.enc_len) (O3.out.offF Ch.enc_len rfl (fun k hk hF => by have := (O3.out.wb_lt k hk).1; have := HM.out.lt k hF; simp at *; omega)) (by have := DL.out; have := SX.out.1; have := SZ.out.1; omega)
                    (by have := KB.out.len; have := BK.out; omega) (fun o ho => by have := (KB.out.gap.2 o ho).2.2; omega)).mono ?_
                 rintro r we ⟨rfl, F4, hm4, g4⟩
                 have MI4 := Lib.hid (MkIn.out LOW.out Y3.out hm4 g4)
                 obtain ⟨_, _, _, Y4⟩ := MI4.out
                 obtain ⟨e0, e1⟩ := SF.out _ Y4))
          rw [← HT.out] at MI4
          go_wp2_with (fail)
          go_roundg (k - (j + 1))
          case measure => have := HG.out; omega
          case rel => exact ⟨j + 1, by omega, rfl, by go_num, MI4.out⟩
        · have hjk : j = k := by omega
          subst hjk
          have hm := HM.out
          rw [List.take_of_length_le (by rw [ZL.out]; omega), ← HDM2.out] at hm
          have KB := ZB.out j (by omega)
          rw [List.take_of_length_le (by rw [ZL.out]; omega), ← HDM2.out] at KB
          have HM1 := Lib.hid hm
          have KB1 := Lib.hid KB
          have hlt' : ¬ (j : Int) < (j : Int) := by omega
          clear hm KB ZB
          go_wp2_with (go_at_call 77; refine Hid.out ?_)
          refine Lib.hid ?_
          refine (mkOps_any b wr F' _ HM1.out (by have := KB1.out.len; have := BK.out; omega) (fun o ho => by have := KB1.out.gap.2 o ho; have := BK.out; omega)).mono ?_
          intro r wz hN
          obtain ⟨A2, c2, x2, rfl, o1, o2, o3, o4⟩ := hN.late y
          have OO := Lib.hid (And.intro o1 (And.intro o2 (And.intro o3 o4)))
          clear o1 o2 o3 o4 hN
          go_wp2_with (fail)
          refine bodyPost_ret (v := .tuple #[.slice A2 x2.length c2, .int .i64 0]) (by simp [results, Tryz.results28, go_sem]) rfl ?_
          exact ⟨A2, c2, x2, rfl, OO.out.1, OO.out.2.1, OO.out.2.2.1, OO.out.2.2.2⟩
end Go.Proofs.YtfnkjcodcoehcaaGreatDoor
namespace Go.Proofs.YtfnkjcodcoehcaaGreatDoor
open Go.RowKit
set_option linter.unusedVariables false
set_option linter.unusedSimpArgs false

theorem diff_sets {l : List Ky} {d : List Cl} (h : mayD l d = 0) : ∀ c ∈ d, c.s.length ≤ 64 ∧ riseA c.s = true := fun c hc => by
  obtain ⟨a, b, _⟩ := mayS_zero ((mayD_iff.1 h).2.1 c hc).2.1
  exact ⟨a, b⟩
theorem zip_mem {d e : List Cl} {x : Cl × Cl} (hx : x ∈ d.zip e) : x.1 ∈ d ∧ x.2 ∈ e := by
  obtain ⟨a, b⟩ := x
  exact List.of_mem_zip hx
theorem diffM_B {l : List Ky} {d e : List Cl} (hd : mayD l d = 0) (he : mayD l e = 0) : MkB (diffM d e) (2 + e.length + 2 * d.length) 128 := by
  unfold diffM diffM1
  generalize begD d e = n
  have sd : ∀ c ∈ d.drop n, c.s.length ≤ 64 ∧ riseA c.s = true := fun c hc => diff_sets hd c (List.mem_of_mem_drop hc)
  have se : ∀ c ∈ e.drop n, c.s.length ≤ 64 ∧ riseA c.s = true := fun c hc => diff_sets he c (List.mem_of_mem_drop hc)
  have ld : (d.drop n).length ≤ d.length := by rw [List.length_drop]; omega
  have le : (e.drop n).length ≤ e.length := by rw [List.length_drop]; omega
  generalize d.drop n = d1 at *
  generalize e.drop n = e1 at *
  generalize endD d1 e1 = k
  have h0 := (MkB.new 128).retain (n : Int) (p := []) (by simp)
  have h1 := h0.tellD (e1.take (e1.length - k)) (fun c hc => by have := (se c (List.mem_of_mem_take hc)).1; omega)
  have h2 := h1.delete ((d1.length : Int) - k)
  have h3 := retsM_B h2 ((d1.drop (d1.length - k)).zip (e1.drop (e1.length - k))) (fun x hx => by
    obtain ⟨m1, m2⟩ := zip_mem hx
    obtain ⟨a1, a2⟩ := sd _ (List.mem_of_mem_drop m1)
    obtain ⟨b1, b2⟩ := se _ (List.mem_of_mem_drop m2)
    have := diff_len a2 b2
    omega)
  refine h3.mono ?_ (Nat.le_refl _)
  rw [List.length_zip, List.length_take, List.length_drop, List.length_drop]
  omega
theorem diff_okUn {l : List Ky} {d e : List Cl} (hd : mayD l d = 0) (he : mayD l e = 0) (ve : ∀ c ∈ e, okVr c.s) : ∀ u ∈ diffU d e, okUn u := by
  unfold diffU diffU1
  generalize begD d e = n
  have sd : ∀ c ∈ d.drop n, riseA c.s = true := fun c hc => (diff_sets hd c (List.mem_of_mem_drop hc)).2
  have se : ∀ c ∈ e.drop n, riseA c.s = true ∧ okVr c.s ∧ okVa c.s := fun c hc => ⟨(diff_sets he c (List.mem_of_mem_drop hc)).2, ve c (List.mem_of_mem_drop hc), mayS_va ((mayD_iff.1 he).2.1 c (List.mem_of_mem_drop hc)).2.1 (ve c (List.mem_of_mem_drop hc))⟩
  generalize d.drop n = d1 at *
  generalize e.drop n = e1 at *
  generalize endD d1 e1 = k
  intro u hu
  rcases List.mem_append.1 hu with hu | hu
  · rw [(List.mem_replicate.1 hu).2]; intro c hc; cases hc
  rcases List.mem_append.1 hu with hu | hu
  · rcases List.mem_append.1 hu with hu | hu
    · obtain ⟨c, hc, rfl⟩ := List.mem_map.1 hu
      exact (se c (List.mem_of_mem_take hc)).2.1
    · rw [(List.mem_replicate.1 hu).2]; trivial
  · obtain ⟨x, hx, rfl⟩ := List.mem_map.1 hu
    obtain ⟨m1, m2⟩ := zip_mem hx
    exact vs_diff (sd _ (List.mem_of_mem_drop m1)) (se _ (List.mem_of_mem_drop m2)).1 (se _ (List.mem_of_mem_drop m2)).2.2
theorem diffDoc {s : Nat} {l : List Ky} {A1 A2 : Option Addr} {n1 n2 c1 c2 : Nat} {d e : List ClS} {w : World} (D1 : DocAt w A1 n1 c1 d) (D2 : DocAt w A2 n2 c2 e) (hS : Sch w s l)
    (hT : Lib.Utf8Tabs 1 2 w) (m1 : mayD l (clsOf d) = 0) (m2 : mayD l (clsOf e) = 0) :
    Calls Tryz.prog 28 #[.pointer (some ⟨s, 0, none⟩), .slice A1 n1 c1, .slice A2 n2 c2] w (NewOpOk (mkU (diffU (clsOf d) (clsOf e))) w) := by
  have vr : ∀ {D : List ClS}, (∀ z ∈ D, z.c.s.length ≤ 1000000 ∧ okVr z.c.s) → ∀ z ∈ D, z.c.s.length ≤ 100000000 ∧ okVr z.c.s := fun h z hz => ⟨by have := (h z hz).1; omega, (h z hz).2⟩
  refine (cdiff_ok s l A1 A2 n1 n2 c1 c2 d e w D1.len D2.len D1.rd D2.rd D1.cap D2.cap (by have := D1.b; omega) (by have := D2.b; omega) hS (vr D1.vr) (vr D2.vr) D1.caps hT m1 m2).mono ?_
  rintro e1 w' ⟨A, c, x, he, hx, ho, hp, y⟩
  have l1 : (clsOf d).length ≤ 20000 := by rw [clsOf_len, ← D1.len]; exact D1.b
  have l2 : (clsOf e).length ≤ 20000 := by rw [clsOf_len, ← D2.len]; exact D2.b
  have ht := diff_told (by omega) (by omega) (mayD_end m1).1 (mayD_end m2).1
  have ve : ∀ z ∈ clsOf e, okVr z.s := fun z hz => by
    obtain ⟨q, hq, rfl⟩ := List.mem_map.1 hz
    exact (D2.vr q hq).2
  obtain ⟨h1, h2⟩ := ok_made hx ht (diff_okUn m1 m2 ve) (diffM_B m1 m2) (by omega) (by omega)
  obtain ⟨k1, k2⟩ := cap_own ho
  exact ⟨A, c, x, he, hx.trans (told_mkU ht), ⟨⟨rd_made ho hp, rfl, h1, by omega⟩, k1, k2, fun z hz => by obtain ⟨g, hg⟩ := hp z hz; exact cap_part hg⟩, y⟩
end Go.Proofs.YtfnkjcodcoehcaaGreatDoor
namespace Go.Proofs.YtfnkjcodcoehcaaGreatDoor
open Go.RowKit
set_option linter.unusedVariables false
set_option linter.unusedSimpArgs false

def bnd (b : Bool) : Nat := if b = true then 1 else 0
theorem bnd_t : bnd true = 1 := rfl
theorem bnd_f : bnd false = 0 := rfl
theorem bnd_le (b : Bool) : bnd b ≤ 1 := by cases b <;> decide
end Go.Proofs.YtfnkjcodcoehcaaGreatDoor
