/- Merged texts: Diff23W. -/
import Derived.Deep.RegionHeld3
import Derived.Deep.RegionHeldLaw
import Derived.Test.YtfnkjcodcoehcaaGreatDoorP36
import Derived.Test.YtfnkjcodcoehcaaGreatDoorP35
import Derived.Test.YtfnkjcodcoehcaaGreatDoorP30
import Derived.Test.YtfnkjcodcoehcaaGreatDoorQ1
import Derived.Test.YtfnkjcodcoehcaaGreatDoorP34
import Derived.Test.YtfnkjcodcoehcaaGreatDoorP25
namespace Go.Proofs.YtfnkjcodcoehcaaGreatDoor
open Go.RowKit
set_option linter.unusedVariables false
set_option linter.unusedSimpArgs false

/-- what the document tells its normal form -/
def retO (x : Cl × Cl) : Opd := opR 1 (diffP x.1.s x.2.s)
def insO1 (c : Cl) : Opd := opI [c.r] c.s
def retsO (n : Nat) : List Opd := if 0 < n then [opR (n : Int) []] else []
def delsO (n : Nat) : List Opd := if 0 < n then [opD (n : Int)] else []
theorem retsO_units (n : Nat) : units (retsO n) = List.replicate n (.ret []) := by
  unfold retsO
  split
  · rw [units_one, unitsO_R]; simp
  · rename_i h; rw [show n = 0 by omega]; rfl
theorem delsO_units (n : Nat) : units (delsO n) = List.replicate n .del := by
  unfold delsO
  split
  · rw [units_one, unitsO_D]; simp
  · rename_i h; rw [show n = 0 by omega]; rfl
theorem units_ins (f : List Cl) : units (f.map insO1) = f.map insU := by
  induction f with
  | nil => rfl
  | cons c f ih => rw [List.map_cons, List.map_cons, units_cons, ih]; rfl
theorem units_rets (z : List (Cl × Cl)) : units (z.map retO) = z.map retU := by
  induction z with
  | nil => rfl
  | cons c f ih => rw [List.map_cons, List.map_cons, units_cons, ih]; rfl
/-- the document's ops on the way from d to e -/
def diffO (d e : List Cl) : List Opd :=
  retsO (begD d e) ++ ((e.drop (begD d e)).take ((e.drop (begD d e)).length - endD (d.drop (begD d e)) (e.drop (begD d e)))).map insO1 ++ delsO ((d.drop (begD d e)).length - endD (d.drop (begD d e)) (e.drop (begD d e))) ++
    (((d.drop (begD d e)).drop ((d.drop (begD d e)).length - endD (d.drop (begD d e)) (e.drop (begD d e)))).zip ((e.drop (begD d e)).drop ((e.drop (begD d e)).length - endD (d.drop (begD d e)) (e.drop (begD d e))))).map retO
theorem diffO_units (d e : List Cl) : units (diffO d e) = diffU d e := by
  unfold diffO diffU diffU1
  rw [units_append, units_append, units_append, retsO_units, units_ins, delsO_units, units_rets]
  simp only [List.append_assoc]
theorem diffO_isOp (d e : List Cl) : ∀ o ∈ diffO d e, isOp o := fun o ho => by
  unfold diffO at ho
  rcases List.mem_append.1 ho with ho | ho
  · rcases List.mem_append.1 ho with ho | ho
    · rcases List.mem_append.1 ho with ho | ho
      · unfold retsO at ho
        split at ho
        · rw [List.mem_singleton] at ho; subst ho; exact isOp_opR (by omega)
        · cases ho
      · obtain ⟨c, _, rfl⟩ := List.mem_map.1 ho
        exact isOp_opI (by simp)
    · unfold delsO at ho
      split at ho
      · rw [List.mem_singleton] at ho; subst ho; exact isOp_opD (by omega)
      · cases ho
  · obtain ⟨c, _, rfl⟩ := List.mem_map.1 ho
    exact isOp_opR (by omega)
theorem szN_os (D : List OpS) : szN D = ((osOf D).map (fun o => 1 + o.r.length)).sum := by
  unfold szN osOf; rw [List.map_map]; rfl
theorem sum_le2 {α : Type} (f : α → Nat) (k : Nat) : ∀ l : List α, (∀ x ∈ l, f x ≤ k) → (l.map f).sum ≤ k * l.length
  | [], _ => Nat.le_refl _
  | a :: l, h => by
    rw [List.map_cons, List.sum_cons, List.length_cons, Nat.mul_succ]
    have h1 := h a (by simp)
    have h2 := sum_le2 f k l (fun x hx => h x (List.mem_cons_of_mem _ hx))
    omega
/-- an op without memory of its own set behind a row -/
theorem push_bare {w wr w9 : World} {ov v9 : Value} {D : List OpS} {o : Opd} {O : Obj} (row : RowF wr (fun _ => False) w.heap.size ov D) (y : Below w.heap.size w wr) (hr : o.r = []) (hs : o.s = []) (hp : o.p = [])
    (ho : OwOs w9 w.heap.size v9 (D ++ [⟨o, none, 0, none, 0, none, 0⟩])) (g : (wr.alloc O).grownBy w9 (wb ov)) (hv : v9 = ov ∧ w9 = wr.alloc O ∨ wb v9 = wb ov ∨ wb v9 = some (wr.alloc O).heap.size) :
    RowF w9 (fun _ => False) w.heap.size v9 (D ++ [⟨o, none, 0, none, 0, none, 0⟩]) ∧ Below w.heap.size w w9 := by
  have y3 := ext_alloc wr O
  have yy := ext_trans y y3
  refine ⟨(row.ext y3).app (fun x hx => ?_) ho g hv, yy.grown g yy.size (fun k hk => (row.own.wb_lt k hk).1)⟩
  rw [List.mem_singleton] at hx
  subst hx
  refine ⟨⟨?_, ?_⟩, ⟨?_, ?_⟩, ⟨?_, ?_⟩⟩
  · show RdI32 _ _ none o.r; rw [hr]; exact Rd.nil
  · show OffF _ none o.r.length; rw [hr]; exact OffF.zero
  · show RdAt _ _ none o.s; rw [hs]; exact Rd.nil
  · show OffF _ none o.s.length; rw [hs]; exact OffF.zero
  · show RdCh _ _ none o.p; rw [hp]; exact Rd.nil
  · show OffF _ none o.p.length; rw [hp]; exact OffF.zero
/-- a retain with a patch of the call's own set behind a row -/
theorem push_ret {w wr W1 w9 : World} {ov v9 : Value} {D : List OpS} {n : Int} {p : List Ch} {Ap : Option Addr} {cp : Nat} {O : Obj} (row : RowF wr (fun _ => False) w.heap.size ov D) (y : Below w.heap.size w wr) (y1 : Below wr.heap.size wr W1)
    (hq : OwCh W1 wr.heap.size (.slice Ap p.length cp) p)
    (ho : OwOs w9 w.heap.size v9 (D ++ [⟨opR n p, none, 0, none, 0, Ap, cp⟩])) (g : (W1.alloc O).grownBy w9 (wb ov)) (hv : v9 = ov ∧ w9 = W1.alloc O ∨ wb v9 = wb ov ∨ wb v9 = some (W1.alloc O).heap.size) :
    RowF w9 (fun _ => False) w.heap.size v9 (D ++ [⟨opR n p, none, 0, none, 0, Ap, cp⟩]) ∧ Below w.heap.size w w9 := by
  have y3 := ext_trans y1 (ext_alloc W1 O)
  have yy := ext_trans y y3
  have wl := row.own.wb_lt
  refine ⟨(row.ext y3).app (fun x hx => ?_) ho g hv, yy.grown g yy.size (fun k hk => (wl k hk).1)⟩
  rw [List.mem_singleton] at hx
  subst hx
  have hq2 := hq.below (ext_alloc W1 O) (Nat.le_refl _)
  refine ⟨⟨Rd.nil, OffF.zero⟩, ⟨Rd.nil, OffF.zero⟩, ⟨hq2.rd Ch.enc_len, ?_⟩⟩
  refine hq2.offF Ch.enc_len rfl (fun k hk hg => ?_)
  have h1 := (hq.wb_lt k hk).1
  rcases hg with hg | hg
  · exact hg
  · have := (wl _ hg).2; omega
/- MARK -/
theorem diffO_small {l : List Ky} {d e : List Cl} (hd : mayD l d = 0) (he : mayD l e = 0) : ∀ o ∈ diffO d e, o.r.length ≤ 1 ∧ o.s.length ≤ 1000000 ∧ o.p.length ≤ 1000000 := fun o ho => by
  unfold diffO at ho
  rcases List.mem_append.1 ho with ho | ho
  · rcases List.mem_append.1 ho with ho | ho
    · rcases List.mem_append.1 ho with ho | ho
      · unfold retsO at ho
        split at ho
        · rw [List.mem_singleton] at ho; subst ho; exact ⟨Nat.zero_le _, Nat.zero_le _, Nat.zero_le _⟩
        · cases ho
      · obtain ⟨c, hc, rfl⟩ := List.mem_map.1 ho
        have := (diff_sets he c (List.mem_of_mem_drop (List.mem_of_mem_take hc))).1
        exact ⟨Nat.le_refl _, by show c.s.length ≤ _; omega, Nat.zero_le _⟩
    · unfold delsO at ho
      split at ho
      · rw [List.mem_singleton] at ho; subst ho; exact ⟨Nat.zero_le _, Nat.zero_le _, Nat.zero_le _⟩
      · cases ho
  · obtain ⟨x, hx, rfl⟩ := List.mem_map.1 ho
    obtain ⟨m1, m2⟩ := zip_mem hx
    obtain ⟨a1, a2⟩ := diff_sets hd _ (List.mem_of_mem_drop (List.mem_of_mem_drop m1))
    obtain ⟨b1, b2⟩ := diff_sets he _ (List.mem_of_mem_drop (List.mem_of_mem_drop m2))
    refine ⟨Nat.zero_le _, Nat.zero_le _, ?_⟩
    show (diffP x.1.s x.2.s).length ≤ _
    have := diff_len a2 b2
    omega
set_option maxRecDepth 100000 in
set_option maxHeartbeats 1600000 in
theorem diff23Bad {l : List Ky} {A0 A1 A2 : Option Addr} {n0 n1 n2 c0 c1 c2 : Nat} {d e : List ClS} {w : World} (e0 : n0 = l.length) (r0 : RdKy w w.heap.size A0 l) (b0 : n0 ≤ 1048576) (d1 : DocAt w A1 n1 c1 d) (d2 : DocAt w A2 n2 c2 e)
    (v1 : ∀ x ∈ d, okVa x.c.s) (v2 : ∀ x ∈ e, okVa x.c.s) (hT : Lib.Utf8Tabs 1 2 w)
    (hm : mayD l (clsOf d) ≠ 0 ∨ mayD l (clsOf e) ≠ 0) :
    Calls Tryz.prog 29 #[.slice A0 n0 c0, .slice A1 n1 c1, .slice A2 n2 c2] w fun e w' => e = .returned (.tuple #[.slice none 0 0, .int .i64 3]) ∧ Below w.heap.size w w' := by
  have N0 := Lib.hid e0
  have R0 := Lib.hid r0
  have D1 := Lib.hid d1
  have D2 := Lib.hid d2
  have V1 := Lib.hid v1
  have V2 := Lib.hid v2
  have HT := Lib.hid hT
  have hx := Below.refl w.heap.size w
  clear e0 r0 d1 d2 v1 v2 hT
  obtain ⟨ma, hma⟩ : ∃ X, mayD l (clsOf d) = X := ⟨_, rfl⟩
  obtain ⟨mb, hmb⟩ : ∃ X, mayD l (clsOf e) = X := ⟨_, rfl⟩
  have M1 := Lib.hid hma
  have M2 := Lib.hid hmb
  rw [hma, hmb] at hm
  clear hma hmb
  go_enter Tryz.func29, Tryz.ntmps29
  go_wp2_with (go_at_call 73; refine Hid.out ?_)
  refine Lib.hid ?_
  refine (may18_any A0 A1 n0 c0 n1 c1 l d _ N0.out R0.out (by omega) D1.out.len D1.out.rd (by have := D1.out.b; omega) (fun z hz => ⟨V1.out z hz, (D1.out.vr z hz).1⟩) HT.out).mono ?_
  rw [M1.out]
  rintro r1 wn ⟨rfl, y⟩
  have R0 := Lib.hid (R0.out.ext y)
  have D1 := Lib.hid (D1.out.ext y)
  have D2 := Lib.hid (D2.out.ext y)
  have HT := Lib.hid (Utf8Tabs_below HT.out y)
  replace hx := ext_trans hx y
  clear y
  by_cases h1 : ma = 0
  rotate_left
  · skip
    have h1' : (ma == 0) = false := beq_eq_false_iff_ne.2 h1
    have h1'' : (ma != 0) = true := by rw [bne, h1']; rfl
    go_wp2_with (fail)
    refine bodyPost_ret (v := .tuple #[.slice none 0 0, .int .i64 3]) (by simp [results, Tryz.results29, go_sem]) rfl ?_
    exact ⟨rfl, hx⟩
  have h2 : mb ≠ 0 := by rcases hm with h | h; exact absurd h1 h; exact h
  subst h1
  go_wp2_with (go_at_call 73; refine Hid.out ?_)
  refine Lib.hid ?_
  refine (may18_any A0 A2 n0 c0 n2 c2 l e _ N0.out R0.out (by omega) D2.out.len D2.out.rd (by have := D2.out.b; omega) (fun z hz => ⟨V2.out z hz, (D2.out.vr z hz).1⟩) HT.out).mono ?_
  rw [M2.out]
  rintro r1 wn ⟨rfl, y⟩
  have R0 := Lib.hid (R0.out.ext y)
  have D1 := Lib.hid (D1.out.ext y)
  have D2 := Lib.hid (D2.out.ext y)
  have HT := Lib.hid (Utf8Tabs_below HT.out y)
  replace hx := ext_trans hx y
  clear y
  have h1' : (mb == 0) = false := beq_eq_false_iff_ne.2 h2
  have h1'' : (mb != 0) = true := by rw [bne, h1']; rfl
  go_wp2_with (fail)
  refine bodyPost_ret (v := .tuple #[.slice none 0 0, .int .i64 3]) (by simp [results, Tryz.results29, go_sem]) rfl ?_
  exact ⟨rfl, hx⟩
set_option maxRecDepth 100000 in
set_option maxHeartbeats 12800000 in
theorem diff23Ok {l : List Ky} {A0 A1 A2 : Option Addr} {n0 n1 n2 c0 c1 c2 : Nat} {d e : List ClS} {w : World} (e0 : n0 = l.length) (r0 : RdKy w w.heap.size A0 l) (b0 : n0 ≤ 1048576) (d1 : DocAt w A1 n1 c1 d) (d2 : DocAt w A2 n2 c2 e)
    (v1 : ∀ x ∈ d, okVa x.c.s) (v2 : ∀ x ∈ e, okVa x.c.s) (hT : Lib.Utf8Tabs 1 2 w)
    (m1 : mayD l (clsOf d) = 0) (m2 : mayD l (clsOf e) = 0) (h1 : n1 ≤ 400) (h2 : n2 ≤ 400) :
    Calls Tryz.prog 29 #[.slice A0 n0 c0, .slice A1 n1 c1, .slice A2 n2 c2] w (NewOpsOk (mkU (diffU (clsOf d) (clsOf e))) w) := by
  have N0 := Lib.hid e0
  have R0 := Lib.hid r0
  have D1 := Lib.hid d1
  have D2 := Lib.hid d2
  have V1 := Lib.hid v1
  have V2 := Lib.hid v2
  have HT := Lib.hid hT
  have hx := Below.refl w.heap.size w
  have M1 := Lib.hid m1
  have M2 := Lib.hid m2
  clear e0 r0 d1 d2 v1 v2 hT m1 m2
  have ND : Hid (clsOf d ≠ [] ∧ clsOf e ≠ []) := Lib.hid ⟨(mayD_end M1.out).1, (mayD_end M2.out).1⟩
  have LD : Hid ((clsOf d).length = n1 ∧ (clsOf e).length = n2) := Lib.hid ⟨D1.out.clen, D2.out.clen⟩
  obtain ⟨X, hX⟩ : ∃ X, mkU (diffU (clsOf d) (clsOf e)) = X := ⟨_, rfl⟩
  have HX := Lib.hid hX
  rw [hX]
  clear hX
  obtain ⟨b, hb⟩ : ∃ X, begD (clsOf d) (clsOf e) = X := ⟨_, rfl⟩
  obtain ⟨k, hk⟩ : ∃ X, endD ((clsOf d).drop b) ((clsOf e).drop b) = X := ⟨_, rfl⟩
  obtain ⟨q, hq⟩ : ∃ X, n2 - b - k = X := ⟨_, rfl⟩
  obtain ⟨g, hg⟩ : ∃ X, n1 - b - k = X := ⟨_, rfl⟩
  have HB := Lib.hid hb
  have HK := Lib.hid hk
  have NN : Hid (n1 = b + g + k ∧ n2 = b + q + k ∧ 1 ≤ k) := Lib.hid (by
    obtain ⟨h1, h2⟩ := begD_le ND.out.1 ND.out.2
    rw [HB.out] at h1 h2
    obtain ⟨h3, h4, h5⟩ := endD_le (d := (clsOf d).drop b) (e := (clsOf e).drop b) (fun h => by have := congrArg List.length h; simp only [List.length_drop, List.length_nil] at this; omega) (fun h => by have := congrArg List.length h; simp only [List.length_drop, List.length_nil] at this; omega)
    rw [HK.out] at h3 h4 h5
    rw [List.length_drop] at h4 h5
    have := LD.out
    omega)
  have EO : Hid (diffO (clsOf d) (clsOf e) = retsO b ++ (((clsOf e).drop b).take q).map insO1 ++ delsO g ++ ((((clsOf d).drop (b + g)).zip ((clsOf e).drop (b + q))).take k).map retO) := Lib.hid (by
    have := NN.out
    have := LD.out
    unfold diffO
    rw [HB.out, HK.out, List.length_drop, List.length_drop, LD.out.1, LD.out.2, hq, hg, List.drop_drop, List.drop_drop, List.take_of_length_le (l := List.zip _ _) (by rw [List.length_zip, List.length_drop, List.length_drop]; omega)])
  have SO : Hid (∀ o ∈ diffO (clsOf d) (clsOf e), o.r.length ≤ 1 ∧ o.s.length ≤ 1000000 ∧ o.p.length ≤ 1000000) := Lib.hid (diffO_small M1.out M2.out)
  have UB : Hid ((units (diffO (clsOf d) (clsOf e))).length ≤ 4000000000) := Lib.hid (by rw [diffO_units]; have h := diffU_len ND.out.1 ND.out.2; have := LD.out; omega)
  have BN : Hid (n1 ≤ 400 ∧ n2 ≤ 400) := Lib.hid ⟨h1, h2⟩
  clear hb hk hq hg
  go_enter Tryz.func29, Tryz.ntmps29
  go_wp2_with (go_at_call 73; refine Hid.out ?_)
  refine Lib.hid ?_
  refine (may18_any A0 A1 n0 c0 n1 c1 l d _ N0.out R0.out (by omega) D1.out.len D1.out.rd (by have := D1.out.b; omega) (fun z hz => ⟨V1.out z hz, (D1.out.vr z hz).1⟩) HT.out).mono ?_
  rw [M1.out]
  rintro r1 wn ⟨rfl, y⟩
  have R0 := Lib.hid (R0.out.ext y)
  have D1 := Lib.hid (D1.out.ext y)
  have D2 := Lib.hid (D2.out.ext y)
  have HT := Lib.hid (Utf8Tabs_below HT.out y)
  replace hx := ext_trans hx y
  clear y
  go_wp2_with (go_at_call 73; refine Hid.out ?_)
  refine Lib.hid ?_
  refine (may18_any A0 A2 n0 c0 n2 c2 l e _ N0.out R0.out (by omega) D2.out.len D2.out.rd (by have := D2.out.b; omega) (fun z hz => ⟨V2.out z hz, (D2.out.vr z hz).1⟩) HT.out).mono ?_
  rw [M2.out]
  rintro r1 wn ⟨rfl, y⟩
  have R0 := Lib.hid (R0.out.ext y)
  have D1 := Lib.hid (D1.out.ext y)
  have D2 := Lib.hid (D2.out.ext y)
  have HT := Lib.hid (Utf8Tabs_below HT.out y)
  replace hx := ext_trans hx y
  clear y
  go_wp2_with (go_at_call 84; refine Hid.out ?_)
  refine Lib.hid ?_
  refine (begin23_any A1 A2 n1 n2 c1 c2 d e _ D1.out.len D2.out.len D1.out.rd D2.out.rd (by omega) (by omega) (by have := NN.out; omega) (by have := NN.out; omega) (fun z hz => by have := (D1.out.vr z hz).1; omega) (fun z hz => by have := (D2.out.vr z hz).1; omega)).mono ?_
  rw [HB.out]
  rintro r1 wn ⟨rfl, dr, hd⟩
  have y := drew_ext hd
  clear hd
  have R0 := Lib.hid (R0.out.ext y)
  have D1 := Lib.hid (D1.out.ext y)
  have D2 := Lib.hid (D2.out.ext y)
  have HT := Lib.hid (Utf8Tabs_below HT.out y)
  replace hx := ext_trans hx y
  clear y
  go_wp2_with (go_at_call 85; refine Hid.out ?_)
  refine Lib.hid ?_
  refine (end23_any A1 A2 n1 n2 c1 c2 b d e _ D1.out.len D2.out.len D1.out.rd.1 D2.out.rd.1 (by omega) (by omega) (by have := NN.out; omega) (by have := NN.out; omega)).mono ?_
  rw [HK.out]
  rintro r1 wn ⟨rfl, dr, hd⟩
  have y := drew_ext hd
  clear hd
  have R0 := Lib.hid (R0.out.ext y)
  have D1 := Lib.hid (D1.out.ext y)
  have D2 := Lib.hid (D2.out.ext y)
  have HT := Lib.hid (Utf8Tabs_below HT.out y)
  replace hx := ext_trans hx y
  clear y
  obtain ⟨wb0, hwb⟩ : ∃ X, X = wn := ⟨_, rfl⟩
  subst hwb
  have e1 : (n2 : Int) - (k : Int) = ((b + q : Nat) : Int) := by have := NN.out; omega
  have e2 : (n1 : Int) - (k : Int) = ((b + g : Nat) : Int) := by have := NN.out; omega
  have e3 : ((b + g : Nat) : Int) - (b : Int) = (g : Int) := by omega
  have w1 : IntKind.i64.wrap ((n2 : Int) - (k : Int)) = ((b + q : Nat) : Int) := by rw [e1]; exact IntWalk.i64_in _ (by have := NN.out; omega)
  have w2 : IntKind.i64.wrap ((n1 : Int) - (k : Int)) = ((b + g : Nat) : Int) := by rw [e2]; exact IntWalk.i64_in _ (by have := NN.out; omega)
  have w3 : IntKind.i64.wrap (((b + g : Nat) : Int) - (b : Int)) = (g : Int) := by rw [e3]; exact IntWalk.i64_in _ (by have := NN.out; omega)
  clear e1 e2 e3
  obtain ⟨bq, hbq⟩ : ∃ X, b + q = X := ⟨_, rfl⟩
  obtain ⟨bg, hbg⟩ : ∃ X, b + g = X := ⟨_, rfl⟩
  rw [hbq] at w1
  rw [hbg] at w2 w3
  have BQ := Lib.hid hbq
  have BG := Lib.hid hbg
  clear hbq hbg
  have ROW0 : Hid (RowF wb0 (fun _ => False) wb0.heap.size (.slice none 0 0) []) := Lib.hid (RowF.nil _ _ _)
  have YB := Lib.hid hx
  by_cases hb0 : 0 < b
  · have hb1 : (0 : Int) < (b : Int) := by clear w1 w2 w3; omega
    have E0 : Hid (retsO b = [opR (b : Int) []]) := Lib.hid (if_pos hb0)
    go_wp2_with ((at_builtin; refine app_os (l := []) (m := [⟨opR (b : Int) [], none, 0, none, 0, none, 0⟩]) rfl (.tmp 32) (.tmp 35) rfl rfl (by exact Ow.nil _ wb0.heap.size) _ _ 1 1 rfl rfl (by exact rd_one (enc := OpS.enc) (size := 5) _ _ (⟨opR (b : Int) [], none, 0, none, 0, none, 0⟩ : OpS) rfl) (by simp) (by exact (ext_alloc _ _).size) ?_; intro v1 wa ho1 g1 hv1))
    have RR := push_bare ROW0.out (Below.refl wb0.heap.size wb0) rfl rfl rfl ho1 g1 hv1
    have RA := Lib.hid RR.1
    have YA := Lib.hid RR.2
    have OA : Hid (osOf ([] ++ [(⟨opR (b : Int) [], none, 0, none, 0, none, 0⟩ : OpS)]) = retsO b ++ (((clsOf e).drop b).take 0).map insO1) := Lib.hid (by rw [E0.out]; rfl)
    clear ho1 g1 hv1 RR E0
    go_wp2_with (fail)
    go_loopg [10, 11] q (fun gk ov iv wr => ∃ (m : Nat) (D : List OpS), m ≤ q ∧ gk = q - m ∧ iv = .int .i64 ((b + m : Nat) : Int) ∧ D.length ≤ 1 + m ∧ RowF wr (fun _ => False) wb0.heap.size ov D ∧ Hid (osOf D = retsO b ++ (((clsOf e).drop b).take m).map insO1) ∧ Below wb0.heap.size wb0 wr)
    case atStart => exact ⟨0, _, Nat.zero_le _, rfl, rfl, by simp, RA.out, OA, YA.out⟩
    case round =>
      clear RA OA YA hb1
      obtain ⟨m, D, hm, hgk, rfl, hdl, hrow, HD, y⟩ := hrel
      have HG := Lib.hid hgk
      have HRW := Lib.hid hrow
      clear hgk hrow
      by_cases hlt : m < q
      · have hlt' : ((b + m : Nat) : Int) < (bq : Int) := by have := BQ.out; clear w1 w2 w3; omega
        have hl2 : ((b + m : Nat) : Int) < (n2 : Int) := by have := NN.out; clear w1 w2 w3; omega
        obtain ⟨j, hj⟩ : ∃ X, b + m = X := ⟨_, rfl⟩
        have HJ := Lib.hid hj
        obtain ⟨ad, x, rfl, hd0, hd1, hx1, hc0⟩ := (D2.out.rd.ext y).1.el (i := j) (by have := D2.out.len; have := NN.out; clear w1 w2 w3; omega)
        have HX1 : Hid (((clsOf e).drop b)[m]? = some x.c) := Lib.hid (by rw [List.getElem?_drop, hj]; exact clsOf_at hx1)
        have g2 := D2.out.rd.2 x (List.mem_of_getElem? hx1)
        have HAD : Hid (ad.block < wb0.heap.size) := Lib.hid (by
          obtain ⟨ad', e', hb', _⟩ := D2.out.rd.1 (by have := D2.out.len; have := NN.out; clear w1 w2 w3; omega)
          injection e' with e'; subst e'; exact hb')
        obtain ⟨⟨r, s⟩, As, cs⟩ := x
        simp only at g2
        have HC := Lib.hid hc0
        have G2 := Lib.hid g2
        have hw2 : IntKind.i64.wrap ((j:Int) + 1) = (j : Int) + 1 := IntWalk.i64_in _ (by have := NN.out; have := BN.out; clear w1 w2 w3; omega)
        rw [hj] at hlt' hl2
        clear hc0 hd1 hx1 g2 hd0
        have opb : ∀ {W : World}, Below wr.heap.size wr W → W.cell? (ad.add (j * 2)) = some (.int .i32 r) ∧ W.cell? { block := (ad.add (j * 2)).block, off := (ad.add (j * 2)).off + 1 } = some (.slice As s.length cs) := fun {W} yw =>
          cl_cells (HC.out.keep (w' := W) fun q hq => yw.cell (by rw [hq, add_block]; have := HAD.out; have := y.size; clear w1 w2 w3 hw2; omega))
        have YW : Hid (Below wr.heap.size wr wr.drew) := Lib.hid (up_drew (Below.refl _ _))
        have YZ : Hid (Below wr.heap.size wr wr) := Lib.hid (Below.refl _ _)
        have Cw := opb YZ.out
        rw [hj]
        clear hj
        go_wp2_with (fail)
        go_region_held_law (fun w' => w'.cell? (ad.add (j * 2)) = some (.int .i32 r) ∧ w'.cell? { block := (ad.add (j * 2)).block, off := (ad.add (j * 2)).off + 1 } = some (.slice As s.length cs)) (first | exact C9 | exact opb (by repeat (first | exact YW.out | exact YZ.out | refine ext_trans ?_ (ext_alloc _ _) | refine up_drew ?_))) (first
          | (refine step_os (l := D) (m := [(⟨opI [r] s, some ⟨wr.heap.size, 0, none⟩, 1, As, cs, none, 0⟩ : OpS)]) rfl (.tmp 46) (.tmp 59) (by rfl) (by rfl) (HRW.out.own.below (ext_trans (ext_trans YW.out (ext_alloc _ _)) (ext_alloc _ _)) (Nat.le_refl _)) _ _ 1 1 (by rfl) rfl (rd_one_at (enc := OpS.enc) (size := 5) _ _ (⟨opI [r] s, some ⟨wr.heap.size, 0, none⟩, 1, As, cs, none, 0⟩ : OpS) rfl (by simp)) (by have := BN.out; have := NN.out; simp only [List.length_singleton]; clear w1 w2 w3 hw2; omega) (Nat.le_trans y.size (ext_trans (ext_trans YW.out (ext_alloc _ _)) (ext_alloc _ _)).size) ?_
             intro v9 w9 ho9 hgr9 hw9
             have RR := push_ins HRW.out y G2.out YW.out ho9 hgr9 hw9
             have R1 := Lib.hid RR.1
             have R2 := Lib.hid RR.2
             have C9 : w9.cell? (ad.add (j * 2)) = some (.int .i32 r) ∧ w9.cell? { block := (ad.add (j * 2)).block, off := (ad.add (j * 2)).off + 1 } = some (.slice As s.length cs) := cl_cells (HC.out.keep (w' := w9) fun q hq => (R2.out.cell (by rw [hq, add_block]; exact HAD.out)).trans (y.cell (by rw [hq, add_block]; exact HAD.out)).symm)
             clear ho9 hgr9 hw9 RR))
        all_goals
          go_wp2_with (fail)
          go_roundg (q - (m + 1))
        all_goals first
          | (have := HG.out; clear w1 w2 w3 hw2; omega)
          | (refine ⟨m + 1, D ++ [⟨opI [r] s, some ⟨wr.heap.size, 0, none⟩, 1, As, cs, none, 0⟩], by clear w1 w2 w3 hw2; omega, rfl, by have := HJ.out; clear w1 w2 w3 hw2; first | go_num | (congr 1; omega), by simp; clear w1 w2 w3 hw2; omega, R1.out, Lib.hid ?_, R2.out⟩
             rw [List.take_add_one, HX1.out, List.map_append, ← List.append_assoc, ← HD.out]
             unfold osOf; rw [List.map_append]; rfl)
      have hlt' : ¬ ((b + m : Nat) : Int) < (bq : Int) := by have := BQ.out; clear w1 w2 w3; omega
      have hmq : m = q := by omega
      have OB : Hid (osOf D = retsO b ++ (((clsOf e).drop b).take q).map insO1) := Lib.hid (by rw [← hmq]; exact HD.out)
      clear HD HG
      obtain ⟨wr1, hwv⟩ : ∃ X, X = wr := ⟨_, rfl⟩
      subst hwv
      by_cases hg0 : 0 < g
      · have hg1 : (b : Int) < (bg : Int) := by have := BG.out; clear w1 w2 w3; omega
        have E0 : Hid (delsO g = [opD (g : Int)]) := Lib.hid (if_pos hg0)
        go_wp2_with ((at_builtin; refine app_os (l := D) (m := [⟨opD (g : Int), none, 0, none, 0, none, 0⟩]) rfl (.tmp 67) (.tmp 75) rfl rfl (by exact HRW.out.own.alloc _) _ _ 1 1 rfl rfl (by exact rd_one (enc := OpS.enc) (size := 5) _ _ (⟨opD (g : Int), none, 0, none, 0, none, 0⟩ : OpS) rfl) (by have := BN.out; have := NN.out; simp only [List.length_singleton]; clear w1 w2 w3; omega) (by exact Nat.le_trans y.size (ext_alloc _ _).size) ?_; intro v3 w3' ho3 g3 hv3))
        have RR := push_bare HRW.out y rfl rfl rfl ho3 g3 hv3
        have RB := Lib.hid RR.1
        have YC := Lib.hid RR.2
        have OC : Hid (osOf (D ++ [⟨opD (g : Int), none, 0, none, 0, none, 0⟩]) = retsO b ++ (((clsOf e).drop b).take q).map insO1 ++ delsO g ++ ((((clsOf d).drop (b + g)).zip ((clsOf e).drop (b + q))).take 0).map retO) := Lib.hid (by
          rw [E0.out, ← OB.out]; unfold osOf; rw [List.map_append]; simp)
        have DL : Hid ((D ++ [(⟨opD (g : Int), none, 0, none, 0, none, 0⟩ : OpS)]).length ≤ 402) := Lib.hid (by have := BN.out; have := NN.out; rw [List.length_append, List.length_singleton]; clear w1 w2 w3; omega)
        clear ho3 g3 hv3 RR E0 OB HRW y
        go_wp2_with (fail)
        go_loopg [10, 12] k (fun gk ov iv wr => ∃ (m : Nat) (D : List OpS), m ≤ k ∧ gk = k - m ∧ iv = .int .i64 ((k - m : Nat) : Int) ∧ D.length ≤ 402 + m ∧ RowF wr (fun _ => False) wb0.heap.size ov D ∧ Hid (osOf D = retsO b ++ (((clsOf e).drop b).take q).map insO1 ++ delsO g ++ ((((clsOf d).drop (b + g)).zip ((clsOf e).drop (b + q))).take m).map retO) ∧ Below wb0.heap.size wb0 wr)
        case atStart => exact ⟨0, _, Nat.zero_le _, rfl, rfl, DL.out, RB.out, OC, YC.out⟩
        case round =>
          clear RB OC YC DL hg1 hg0 hdl hlt hlt' hmq hm
          obtain ⟨m, D, hm, hgk, rfl, hdl, hrow, HD, y⟩ := hrel
          have HG := Lib.hid hgk
          have HRW := Lib.hid hrow
          clear hgk hrow
          by_cases hlt : m < k
          · obtain ⟨i, hi⟩ : ∃ X, k - m = X := ⟨_, rfl⟩
            have HI := Lib.hid hi
            rw [hi]
            have hi1 : (1 : Int) ≤ (i : Int) := by clear w1 w2 w3; omega
            obtain ⟨j1, hj1⟩ : ∃ X, bg + m = X := ⟨_, rfl⟩
            obtain ⟨j2, hj2⟩ : ∃ X, bq + m = X := ⟨_, rfl⟩
            have e1 : (n1 : Int) - (i : Int) = (j1 : Int) := by have := NN.out; have := BG.out; clear w1 w2 w3; omega
            have e2 : (n2 : Int) - (i : Int) = (j2 : Int) := by have := NN.out; have := BQ.out; clear w1 w2 w3; omega
            have u1 : IntKind.i64.wrap ((n1 : Int) - (i : Int)) = (j1 : Int) := by rw [e1]; exact IntWalk.i64_in _ (by clear w1 w2 w3; omega)
            have u2 : IntKind.i64.wrap ((n2 : Int) - (i : Int)) = (j2 : Int) := by rw [e2]; exact IntWalk.i64_in _ (by clear w1 w2 w3 u1; omega)
            have e3 : (i : Int) - 1 = ((k - (m + 1) : Nat) : Int) := by clear w1 w2 w3 u1 u2; omega
            have u3 : IntKind.i64.wrap ((i : Int) - 1) = ((k - (m + 1) : Nat) : Int) := by rw [e3]; exact IntWalk.i64_in _ (by have := BN.out; have := NN.out; clear w1 w2 w3 u1 u2; omega)
            have l1 : (j1 : Int) < (n1 : Int) := by clear w1 w2 w3 u1 u2 u3; omega
            have l2 : (j2 : Int) < (n2 : Int) := by clear w1 w2 w3 u1 u2 u3; omega
            have l3 : j1 < n1 := by clear w1 w2 w3 u1 u2 u3; omega
            have l4 : j2 < n2 := by clear w1 w2 w3 u1 u2 u3; omega
            obtain ⟨ad, x, rfl, _, _, hx1, hc1⟩ := (D1.out.rd.ext y).1.el (i := j1) (by rw [← D1.out.len]; exact l3)
            obtain ⟨ad2, z, rfl, _, _, hz1, hc2⟩ := (D2.out.rd.ext y).1.el (i := j2) (by rw [← D2.out.len]; exact l4)
            have HZ : Hid (((((clsOf d).drop (b + g)).zip ((clsOf e).drop (b + q))))[m]? = some (x.c, z.c)) := Lib.hid (by
              rw [List.getElem?_zip_eq_some]
              exact ⟨by rw [List.getElem?_drop, BG.out, hj1]; exact clsOf_at hx1, by rw [List.getElem?_drop, BQ.out, hj2]; exact clsOf_at hz1⟩)
            have mx := mem_cls (List.mem_of_getElem? hx1)
            have mz := mem_cls (List.mem_of_getElem? hz1)
            have RI : Hid ((riseA x.c.s = true ∧ x.c.s.length ≤ 64) ∧ riseA z.c.s = true ∧ z.c.s.length ≤ 64) := Lib.hid ⟨⟨(diff_sets M1.out _ mx).2, (diff_sets M1.out _ mx).1⟩, (diff_sets M2.out _ mz).2, (diff_sets M2.out _ mz).1⟩
            have g1 := D1.out.rd.2 x (List.mem_of_getElem? hx1)
            have g2 := D2.out.rd.2 z (List.mem_of_getElem? hz1)
            have A1D : Hid (ad.block < wb0.heap.size ∧ ad2.block < wb0.heap.size) := Lib.hid ⟨by
              obtain ⟨ad', e', hb', _⟩ := D1.out.rd.1 (by rw [← D1.out.len]; clear w1 w2 w3 u1 u2 u3; omega)
              injection e' with e'; subst e'; exact hb', by
              obtain ⟨ad', e', hb', _⟩ := D2.out.rd.1 (by rw [← D2.out.len]; clear w1 w2 w3 u1 u2 u3; omega)
              injection e' with e'; subst e'; exact hb'⟩
            obtain ⟨⟨r1, s1⟩, As1, cs1⟩ := x
            obtain ⟨⟨r2, s2⟩, As2, cs2⟩ := z
            simp only at g1 g2 HZ RI
            have HC1 := Lib.hid hc1
            have HC2 := Lib.hid hc2
            have G1 := Lib.hid g1
            have G2 := Lib.hid g2
            clear hc1 hc2 hx1 hz1 g1 g2 mx mz hi hj1 hj2 e1 e2 e3
            have opb : ∀ {W : World}, Below wb0.heap.size wb0 W → W.cell? { block := (ad.add (j1 * 2)).block, off := (ad.add (j1 * 2)).off + 1 } = some (.slice As1 s1.length cs1) ∧ W.cell? { block := (ad2.add (j2 * 2)).block, off := (ad2.add (j2 * 2)).off + 1 } = some (.slice As2 s2.length cs2) := fun {W} yw =>
              ⟨(cl_cells (HC1.out.keep (w' := W) fun q hq => (yw.cell (by rw [hq, add_block]; exact A1D.out.1)).trans (y.cell (by rw [hq, add_block]; exact A1D.out.1)).symm)).2,
               (cl_cells (HC2.out.keep (w' := W) fun q hq => (yw.cell (by rw [hq, add_block]; exact A1D.out.2)).trans (y.cell (by rw [hq, add_block]; exact A1D.out.2)).symm)).2⟩
            have YW : Hid (Below wr.heap.size wr wr.drew) := Lib.hid (up_drew (Below.refl _ _))
            have YZ : Hid (Below wr.heap.size wr wr) := Lib.hid (Below.refl _ _)
            have YR := Lib.hid y
            have Cw := opb y
            obtain ⟨P, hP⟩ : ∃ X, diffP s1 s2 = X := ⟨_, rfl⟩
            have HP : Hid (diffR s1 s2 = P) := Lib.hid (by rw [diffR_is RI.out.1.1 RI.out.2.1, hP])
            have HPD := Lib.hid hP
            have PL : Hid (P.length ≤ 1000) := Lib.hid (by rw [← hP]; have := diff_len RI.out.1.1 RI.out.2.1; have := RI.out; omega)
            clear hP
            go_wp2_with (fail)
            go_region_held_law (fun w' => w'.cell? { block := (ad.add (j1 * 2)).block, off := (ad.add (j1 * 2)).off + 1 } = some (.slice As1 s1.length cs1) ∧ w'.cell? { block := (ad2.add (j2 * 2)).block, off := (ad2.add (j2 * 2)).off + 1 } = some (.slice As2 s2.length cs2)) (first | exact C9 | exact C8 | exact opb (ext_trans YR.out (by repeat (first | exact YW.out | exact YZ.out | refine ext_trans ?_ (ext_alloc _ _) | refine up_drew ?_)))) (first
              | (refine step_fn rfl 86 [.tmp 90, .tmp 98] #[36, 36] rfl Tryz.f86 (by kernel_rfl) (by kernel_rfl) (by kernel_rfl) [.slice As1 s1.length cs1, .slice As2 s2.length cs2] (by rfl) (diff06_any As1 As2 s1.length cs1 s2.length cs2 s1 s2 _ rfl rfl (G1.out.ext (ext_trans YR.out (by repeat (first | exact YW.out | exact YZ.out | refine ext_trans ?_ (ext_alloc _ _) | refine up_drew ?_)))) (G2.out.ext (ext_trans YR.out (by repeat (first | exact YW.out | exact YZ.out | refine ext_trans ?_ (ext_alloc _ _) | refine up_drew ?_)))) (by have := RI.out; clear w1 w2 w3 u1 u2 u3; omega) (by have := RI.out; clear w1 w2 w3 u1 u2 u3; omega)) ?_
                 rw [HP.out]
                 rintro e7 w7 ⟨A7, c7, rfl, o7, y7⟩
                 refine ⟨_, rfl, ?_⟩
                 have O7 := Lib.hid o7
                 have YW : Hid (Below wr.heap.size wr w7) := Lib.hid (ext_trans (by repeat (first | exact YW.out | exact YZ.out | refine ext_trans ?_ (ext_alloc _ _) | refine up_drew ?_)) y7)
                 have C8 := opb (ext_trans YR.out YW.out)
                 clear o7 y7)
              | (refine step_os (l := D) (m := [(⟨opR 1 P, none, 0, none, 0, A7, c7⟩ : OpS)]) rfl (.tmp 82) (.tmp 101) (by rfl) (by rfl) (HRW.out.own.below (ext_trans YW.out (ext_alloc _ _)) (Nat.le_refl _)) _ _ 1 1 (by rfl) rfl (rd_one_at (enc := OpS.enc) (size := 5) _ _ (⟨opR 1 P, none, 0, none, 0, A7, c7⟩ : OpS) rfl (by simp)) (by have := BN.out; have := NN.out; simp only [List.length_singleton]; clear w1 w2 w3 u1 u2 u3; omega) (Nat.le_trans YR.out.size (ext_trans YW.out (ext_alloc _ _)).size) ?_
                 intro v9 w9 ho9 hgr9 hw9
                 have RR := push_ret HRW.out YR.out YW.out (O7.out.base_le (by simp)) ho9 hgr9 hw9
                 have R1 := Lib.hid RR.1
                 have R2 := Lib.hid RR.2
                 have C9 := opb R2.out
                 clear ho9 hgr9 hw9 RR))
            all_goals
              go_wp2_with (fail)
              go_roundg (k - (m + 1))
            all_goals first
              | (have := HG.out; clear w1 w2 w3 u1 u2 u3; omega)
              | (refine ⟨m + 1, D ++ [⟨opR 1 P, none, 0, none, 0, A7, c7⟩], by clear w1 w2 w3 u1 u2 u3; omega, rfl, rfl, by simp; clear w1 w2 w3 u1 u2 u3; omega, R1.out, Lib.hid ?_, R2.out⟩
                 rw [List.take_add_one, HZ.out, List.map_append, ← List.append_assoc, ← HD.out]
                 unfold osOf; rw [List.map_append]
                 show _ = _ ++ [opR 1 (diffP s1 s2)]
                 rw [HPD.out]; rfl)
          have hmk : m = k := by omega
          have hi0 : ¬ (1 : Int) ≤ ((k - m : Nat) : Int) := by clear w1 w2 w3; omega
          have ED : Hid (osOf D = diffO (clsOf d) (clsOf e)) := Lib.hid (by rw [EO.out, HD.out, hmk])
          clear HD HG w1 w2 w3
          obtain ⟨A4, k4, hv4, hk4, _⟩ := HRW.out.own.form
          subst hv4
          have RD : Hid (RdOp wr wr.heap.size A4 D) := Lib.hid ⟨HRW.out.own.rd OpS.enc_len, fun z hz => ⟨(HRW.out.parts z hz).1.1, (HRW.out.parts z hz).2.1.1, (HRW.out.parts z hz).2.2.1⟩⟩
          have CA : Hid (D.length ≤ k4) := Lib.hid hk4
          have MO : Hid (∀ o ∈ D, o.o ∈ diffO (clsOf d) (clsOf e)) := Lib.hid (fun o ho => by rw [← ED.out]; unfold osOf; exact List.mem_map_of_mem ho)
          have ZN : Hid (szN D ≤ 1000000) := Lib.hid (by
            rw [szN_os]
            have h := sum_le2 (fun o : Opd => 1 + o.r.length) 2 (osOf D) (fun o ho => by rw [ED.out] at ho; have := (SO.out o ho).1; omega)
            unfold osOf at h
            rw [List.length_map] at h
            unfold osOf
            have := BN.out; have := NN.out
            omega)
          have YF := Lib.hid (ext_trans YB.out y)
          clear hi0 hk4
          have hi0 : ¬ (1 : Int) ≤ ((k - m : Nat) : Int) := by omega
          go_wp2_with (go_at_call 79; refine Hid.out ?_)
          refine Lib.hid ?_
          refine (of16_any A4 D.length k4 D wr rfl CA.out RD.out (fun o ho => diffO_isOp _ _ _ (MO.out o ho)) ZN.out (fun o ho => (SO.out _ (MO.out o ho)).2)).mono ?_
          rw [ED.out, of_is (diffO_isOp _ _) UB.out, diffO_units, HX.out]
          intro e5 w5 hN
          have hN2 := hN.late YF.out
          obtain ⟨A2, c2, l2, rfl, hM⟩ := hN2
          have HM := Lib.hid hM
          clear hM hN
          go_wp2_with (fail)
          refine bodyPost_ret (v := .tuple #[.slice A2 l2.length c2, .int .i64 0]) (by simp [results, Tryz.results29, go_sem]) rfl ?_
          exact ⟨A2, c2, l2, rfl, HM.out⟩
      · have hg1 : ¬ (b : Int) < (bg : Int) := by have := BG.out; clear w1 w2 w3; omega
        have RB := HRW
        have YC := Lib.hid y
        have OC : Hid (osOf D = retsO b ++ (((clsOf e).drop b).take q).map insO1 ++ delsO g ++ ((((clsOf d).drop (b + g)).zip ((clsOf e).drop (b + q))).take 0).map retO) := Lib.hid (by
          rw [show delsO g = [] from if_neg hg0, ← OB.out]; simp)
        have DL : Hid (D.length ≤ 402) := Lib.hid (by have := BN.out; have := NN.out; clear w1 w2 w3; omega)
        clear OB HRW y
        go_wp2_with (fail)
        go_loopg [10, 12] k (fun gk ov iv wr => ∃ (m : Nat) (D : List OpS), m ≤ k ∧ gk = k - m ∧ iv = .int .i64 ((k - m : Nat) : Int) ∧ D.length ≤ 402 + m ∧ RowF wr (fun _ => False) wb0.heap.size ov D ∧ Hid (osOf D = retsO b ++ (((clsOf e).drop b).take q).map insO1 ++ delsO g ++ ((((clsOf d).drop (b + g)).zip ((clsOf e).drop (b + q))).take m).map retO) ∧ Below wb0.heap.size wb0 wr)
        case atStart => exact ⟨0, _, Nat.zero_le _, rfl, rfl, DL.out, RB.out, OC, YC.out⟩
        case round =>
          clear RB OC YC DL hg1 hg0 hdl hlt hlt' hmq hm
          obtain ⟨m, D, hm, hgk, rfl, hdl, hrow, HD, y⟩ := hrel
          have HG := Lib.hid hgk
          have HRW := Lib.hid hrow
          clear hgk hrow
          by_cases hlt : m < k
          · obtain ⟨i, hi⟩ : ∃ X, k - m = X := ⟨_, rfl⟩
            have HI := Lib.hid hi
            rw [hi]
            have hi1 : (1 : Int) ≤ (i : Int) := by clear w1 w2 w3; omega
            obtain ⟨j1, hj1⟩ : ∃ X, bg + m = X := ⟨_, rfl⟩
            obtain ⟨j2, hj2⟩ : ∃ X, bq + m = X := ⟨_, rfl⟩
            have e1 : (n1 : Int) - (i : Int) = (j1 : Int) := by have := NN.out; have := BG.out; clear w1 w2 w3; omega
            have e2 : (n2 : Int) - (i : Int) = (j2 : Int) := by have := NN.out; have := BQ.out; clear w1 w2 w3; omega
            have u1 : IntKind.i64.wrap ((n1 : Int) - (i : Int)) = (j1 : Int) := by rw [e1]; exact IntWalk.i64_in _ (by clear w1 w2 w3; omega)
            have u2 : IntKind.i64.wrap ((n2 : Int) - (i : Int)) = (j2 : Int) := by rw [e2]; exact IntWalk.i64_in _ (by clear w1 w2 w3 u1; omega)
            have e3 : (i : Int) - 1 = ((k - (m + 1) : Nat) : Int) := by clear w1 w2 w3 u1 u2; omega
            have u3 : IntKind.i64.wrap ((i : Int) - 1) = ((k - (m + 1) : Nat) : Int) := by rw [e3]; exact IntWalk.i64_in _ (by have := BN.out; have := NN.out; clear w1 w2 w3 u1 u2; omega)
            have l1 : (j1 : Int) < (n1 : Int) := by clear w1 w2 w3 u1 u2 u3; omega
            have l2 : (j2 : Int) < (n2 : Int) := by clear w1 w2 w3 u1 u2 u3; omega
            have l3 : j1 < n1 := by clear w1 w2 w3 u1 u2 u3; omega
            have l4 : j2 < n2 := by clear w1 w2 w3 u1 u2 u3; omega
            obtain ⟨ad, x, rfl, _, _, hx1, hc1⟩ := (D1.out.rd.ext y).1.el (i := j1) (by rw [← D1.out.len]; exact l3)
            obtain ⟨ad2, z, rfl, _, _, hz1, hc2⟩ := (D2.out.rd.ext y).1.el (i := j2) (by rw [← D2.out.len]; exact l4)
            have HZ : Hid (((((clsOf d).drop (b + g)).zip ((clsOf e).drop (b + q))))[m]? = some (x.c, z.c)) := Lib.hid (by
              rw [List.getElem?_zip_eq_some]
              exact ⟨by rw [List.getElem?_drop, BG.out, hj1]; exact clsOf_at hx1, by rw [List.getElem?_drop, BQ.out, hj2]; exact clsOf_at hz1⟩)
            have mx := mem_cls (List.mem_of_getElem? hx1)
            have mz := mem_cls (List.mem_of_getElem? hz1)
            have RI : Hid ((riseA x.c.s = true ∧ x.c.s.length ≤ 64) ∧ riseA z.c.s = true ∧ z.c.s.length ≤ 64) := Lib.hid ⟨⟨(diff_sets M1.out _ mx).2, (diff_sets M1.out _ mx).1⟩, (diff_sets M2.out _ mz).2, (diff_sets M2.out _ mz).1⟩
            have g1 := D1.out.rd.2 x (List.mem_of_getElem? hx1)
            have g2 := D2.out.rd.2 z (List.mem_of_getElem? hz1)
            have A1D : Hid (ad.block < wb0.heap.size ∧ ad2.block < wb0.heap.size) := Lib.hid ⟨by
              obtain ⟨ad', e', hb', _⟩ := D1.out.rd.1 (by rw [← D1.out.len]; clear w1 w2 w3 u1 u2 u3; omega)
              injection e' with e'; subst e'; exact hb', by
              obtain ⟨ad', e', hb', _⟩ := D2.out.rd.1 (by rw [← D2.out.len]; clear w1 w2 w3 u1 u2 u3; omega)
              injection e' with e'; subst e'; exact hb'⟩
            obtain ⟨⟨r1, s1⟩, As1, cs1⟩ := x
            obtain ⟨⟨r2, s2⟩, As2, cs2⟩ := z
            simp only at g1 g2 HZ RI
            have HC1 := Lib.hid hc1
            have HC2 := Lib.hid hc2
            have G1 := Lib.hid g1
            have G2 := Lib.hid g2
            clear hc1 hc2 hx1 hz1 g1 g2 mx mz hi hj1 hj2 e1 e2 e3
            have opb : ∀ {W : World}, Below wb0.heap.size wb0 W → W.cell? { block := (ad.add (j1 * 2)).block, off := (ad.add (j1 * 2)).off + 1 } = some (.slice As1 s1.length cs1) ∧ W.cell? { block := (ad2.add (j2 * 2)).block, off := (ad2.add (j2 * 2)).off + 1 } = some (.slice As2 s2.length cs2) := fun {W} yw =>
              ⟨(cl_cells (HC1.out.keep (w' := W) fun q hq => (yw.cell (by rw [hq, add_block]; exact A1D.out.1)).trans (y.cell (by rw [hq, add_block]; exact A1D.out.1)).symm)).2,
               (cl_cells (HC2.out.keep (w' := W) fun q hq => (yw.cell (by rw [hq, add_block]; exact A1D.out.2)).trans (y.cell (by rw [hq, add_block]; exact A1D.out.2)).symm)).2⟩
            have YW : Hid (Below wr.heap.size wr wr.drew) := Lib.hid (up_drew (Below.refl _ _))
            have YZ : Hid (Below wr.heap.size wr wr) := Lib.hid (Below.refl _ _)
            have YR := Lib.hid y
            have Cw := opb y
            obtain ⟨P, hP⟩ : ∃ X, diffP s1 s2 = X := ⟨_, rfl⟩
            have HP : Hid (diffR s1 s2 = P) := Lib.hid (by rw [diffR_is RI.out.1.1 RI.out.2.1, hP])
            have HPD := Lib.hid hP
            have PL : Hid (P.length ≤ 1000) := Lib.hid (by rw [← hP]; have := diff_len RI.out.1.1 RI.out.2.1; have := RI.out; omega)
            clear hP
            go_wp2_with (fail)
            go_region_held_law (fun w' => w'.cell? { block := (ad.add (j1 * 2)).block, off := (ad.add (j1 * 2)).off + 1 } = some (.slice As1 s1.length cs1) ∧ w'.cell? { block := (ad2.add (j2 * 2)).block, off := (ad2.add (j2 * 2)).off + 1 } = some (.slice As2 s2.length cs2)) (first | exact C9 | exact C8 | exact opb (ext_trans YR.out (by repeat (first | exact YW.out | exact YZ.out | refine ext_trans ?_ (ext_alloc _ _) | refine up_drew ?_)))) (first
              | (refine step_fn rfl 86 [.tmp 90, .tmp 98] #[36, 36] rfl Tryz.f86 (by kernel_rfl) (by kernel_rfl) (by kernel_rfl) [.slice As1 s1.length cs1, .slice As2 s2.length cs2] (by rfl) (diff06_any As1 As2 s1.length cs1 s2.length cs2 s1 s2 _ rfl rfl (G1.out.ext (ext_trans YR.out (by repeat (first | exact YW.out | exact YZ.out | refine ext_trans ?_ (ext_alloc _ _) | refine up_drew ?_)))) (G2.out.ext (ext_trans YR.out (by repeat (first | exact YW.out | exact YZ.out | refine ext_trans ?_ (ext_alloc _ _) | refine up_drew ?_)))) (by have := RI.out; clear w1 w2 w3 u1 u2 u3; omega) (by have := RI.out; clear w1 w2 w3 u1 u2 u3; omega)) ?_
                 rw [HP.out]
                 rintro e7 w7 ⟨A7, c7, rfl, o7, y7⟩
                 refine ⟨_, rfl, ?_⟩
                 have O7 := Lib.hid o7
                 have YW : Hid (Below wr.heap.size wr w7) := Lib.hid (ext_trans (by repeat (first | exact YW.out | exact YZ.out | refine ext_trans ?_ (ext_alloc _ _) | refine up_drew ?_)) y7)
                 have C8 := opb (ext_trans YR.out YW.out)
                 clear o7 y7)
              | (refine step_os (l := D) (m := [(⟨opR 1 P, none, 0, none, 0, A7, c7⟩ : OpS)]) rfl (.tmp 82) (.tmp 101) (by rfl) (by rfl) (HRW.out.own.below (ext_trans YW.out (ext_alloc _ _)) (Nat.le_refl _)) _ _ 1 1 (by rfl) rfl (rd_one_at (enc := OpS.enc) (size := 5) _ _ (⟨opR 1 P, none, 0, none, 0, A7, c7⟩ : OpS) rfl (by simp)) (by have := BN.out; have := NN.out; simp only [List.length_singleton]; clear w1 w2 w3 u1 u2 u3; omega) (Nat.le_trans YR.out.size (ext_trans YW.out (ext_alloc _ _)).size) ?_
                 intro v9 w9 ho9 hgr9 hw9
                 have RR := push_ret HRW.out YR.out YW.out (O7.out.base_le (by simp)) ho9 hgr9 hw9
                 have R1 := Lib.hid RR.1
                 have R2 := Lib.hid RR.2
                 have C9 := opb R2.out
                 clear ho9 hgr9 hw9 RR))
            all_goals
              go_wp2_with (fail)
              go_roundg (k - (m + 1))
            all_goals first
              | (have := HG.out; clear w1 w2 w3 u1 u2 u3; omega)
              | (refine ⟨m + 1, D ++ [⟨opR 1 P, none, 0, none, 0, A7, c7⟩], by clear w1 w2 w3 u1 u2 u3; omega, rfl, rfl, by simp; clear w1 w2 w3 u1 u2 u3; omega, R1.out, Lib.hid ?_, R2.out⟩
                 rw [List.take_add_one, HZ.out, List.map_append, ← List.append_assoc, ← HD.out]
                 unfold osOf; rw [List.map_append]
                 show _ = _ ++ [opR 1 (diffP s1 s2)]
                 rw [HPD.out]; rfl)
          have hmk : m = k := by omega
          have hi0 : ¬ (1 : Int) ≤ ((k - m : Nat) : Int) := by clear w1 w2 w3; omega
          have ED : Hid (osOf D = diffO (clsOf d) (clsOf e)) := Lib.hid (by rw [EO.out, HD.out, hmk])
          clear HD HG w1 w2 w3
          obtain ⟨A4, k4, hv4, hk4, _⟩ := HRW.out.own.form
          subst hv4
          have RD : Hid (RdOp wr wr.heap.size A4 D) := Lib.hid ⟨HRW.out.own.rd OpS.enc_len, fun z hz => ⟨(HRW.out.parts z hz).1.1, (HRW.out.parts z hz).2.1.1, (HRW.out.parts z hz).2.2.1⟩⟩
          have CA : Hid (D.length ≤ k4) := Lib.hid hk4
          have MO : Hid (∀ o ∈ D, o.o ∈ diffO (clsOf d) (clsOf e)) := Lib.hid (fun o ho => by rw [← ED.out]; unfold osOf; exact List.mem_map_of_mem ho)
          have ZN : Hid (szN D ≤ 1000000) := Lib.hid (by
            rw [szN_os]
            have h := sum_le2 (fun o : Opd => 1 + o.r.length) 2 (osOf D) (fun o ho => by rw [ED.out] at ho; have := (SO.out o ho).1; omega)
            unfold osOf at h
            rw [List.length_map] at h
            unfold osOf
            have := BN.out; have := NN.out
            omega)
          have YF := Lib.hid (ext_trans YB.out y)
          clear hi0 hk4
          have hi0 : ¬ (1 : Int) ≤ ((k - m : Nat) : Int) := by omega
          go_wp2_with (go_at_call 79; refine Hid.out ?_)
          refine Lib.hid ?_
          refine (of16_any A4 D.length k4 D wr rfl CA.out RD.out (fun o ho => diffO_isOp _ _ _ (MO.out o ho)) ZN.out (fun o ho => (SO.out _ (MO.out o ho)).2)).mono ?_
          rw [ED.out, of_is (diffO_isOp _ _) UB.out, diffO_units, HX.out]
          intro e5 w5 hN
          have hN2 := hN.late YF.out
          obtain ⟨A2, c2, l2, rfl, hM⟩ := hN2
          have HM := Lib.hid hM
          clear hM hN
          go_wp2_with (fail)
          refine bodyPost_ret (v := .tuple #[.slice A2 l2.length c2, .int .i64 0]) (by simp [results, Tryz.results29, go_sem]) rfl ?_
          exact ⟨A2, c2, l2, rfl, HM.out⟩
  · have hb1 : ¬ (0 : Int) < (b : Int) := by clear w1 w2 w3; omega
    have RA := ROW0
    have YA : Hid (Below wb0.heap.size wb0 wb0) := Lib.hid (Below.refl _ _)
    have OA : Hid (osOf [] = retsO b ++ (((clsOf e).drop b).take 0).map insO1) := Lib.hid (by rw [show retsO b = [] from if_neg hb0]; rfl)
    go_wp2_with (fail)
    go_loopg [10, 11] q (fun gk ov iv wr => ∃ (m : Nat) (D : List OpS), m ≤ q ∧ gk = q - m ∧ iv = .int .i64 ((b + m : Nat) : Int) ∧ D.length ≤ 1 + m ∧ RowF wr (fun _ => False) wb0.heap.size ov D ∧ Hid (osOf D = retsO b ++ (((clsOf e).drop b).take m).map insO1) ∧ Below wb0.heap.size wb0 wr)
    case atStart => exact ⟨0, _, Nat.zero_le _, rfl, rfl, by simp, RA.out, OA, YA.out⟩
    case round =>
      clear RA OA YA hb1
      obtain ⟨m, D, hm, hgk, rfl, hdl, hrow, HD, y⟩ := hrel
      have HG := Lib.hid hgk
      have HRW := Lib.hid hrow
      clear hgk hrow
      by_cases hlt : m < q
      · have hlt' : ((b + m : Nat) : Int) < (bq : Int) := by have := BQ.out; clear w1 w2 w3; omega
        have hl2 : ((b + m : Nat) : Int) < (n2 : Int) := by have := NN.out; clear w1 w2 w3; omega
        obtain ⟨j, hj⟩ : ∃ X, b + m = X := ⟨_, rfl⟩
        have HJ := Lib.hid hj
        obtain ⟨ad, x, rfl, hd0, hd1, hx1, hc0⟩ := (D2.out.rd.ext y).1.el (i := j) (by have := D2.out.len; have := NN.out; clear w1 w2 w3; omega)
        have HX1 : Hid (((clsOf e).drop b)[m]? = some x.c) := Lib.hid (by rw [List.getElem?_drop, hj]; exact clsOf_at hx1)
        have g2 := D2.out.rd.2 x (List.mem_of_getElem? hx1)
        have HAD : Hid (ad.block < wb0.heap.size) := Lib.hid (by
          obtain ⟨ad', e', hb', _⟩ := D2.out.rd.1 (by have := D2.out.len; have := NN.out; clear w1 w2 w3; omega)
          injection e' with e'; subst e'; exact hb')
        obtain ⟨⟨r, s⟩, As, cs⟩ := x
        simp only at g2
        have HC := Lib.hid hc0
        have G2 := Lib.hid g2
        have hw2 : IntKind.i64.wrap ((j:Int) + 1) = (j : Int) + 1 := IntWalk.i64_in _ (by have := NN.out; have := BN.out; clear w1 w2 w3; omega)
        rw [hj] at hlt' hl2
        clear hc0 hd1 hx1 g2 hd0
        have opb : ∀ {W : World}, Below wr.heap.size wr W → W.cell? (ad.add (j * 2)) = some (.int .i32 r) ∧ W.cell? { block := (ad.add (j * 2)).block, off := (ad.add (j * 2)).off + 1 } = some (.slice As s.length cs) := fun {W} yw =>
          cl_cells (HC.out.keep (w' := W) fun q hq => yw.cell (by rw [hq, add_block]; have := HAD.out; have := y.size; clear w1 w2 w3 hw2; omega))
        have YW : Hid (Below wr.heap.size wr wr.drew) := Lib.hid (up_drew (Below.refl _ _))
        have YZ : Hid (Below wr.heap.size wr wr) := Lib.hid (Below.refl _ _)
        have Cw := opb YZ.out
        rw [hj]
        clear hj
        go_wp2_with (fail)
        go_region_held_law (fun w' => w'.cell? (ad.add (j * 2)) = some (.int .i32 r) ∧ w'.cell? { block := (ad.add (j * 2)).block, off := (ad.add (j * 2)).off + 1 } = some (.slice As s.length cs)) (first | exact C9 | exact opb (by repeat (first | exact YW.out | exact YZ.out | refine ext_trans ?_ (ext_alloc _ _) | refine up_drew ?_))) (first
          | (refine step_os (l := D) (m := [(⟨opI [r] s, some ⟨wr.heap.size, 0, none⟩, 1, As, cs, none, 0⟩ : OpS)]) rfl (.tmp 46) (.tmp 59) (by rfl) (by rfl) (HRW.out.own.below (ext_trans (ext_trans YW.out (ext_alloc _ _)) (ext_alloc _ _)) (Nat.le_refl _)) _ _ 1 1 (by rfl) rfl (rd_one_at (enc := OpS.enc) (size := 5) _ _ (⟨opI [r] s, some ⟨wr.heap.size, 0, none⟩, 1, As, cs, none, 0⟩ : OpS) rfl (by simp)) (by have := BN.out; have := NN.out; simp only [List.length_singleton]; clear w1 w2 w3 hw2; omega) (Nat.le_trans y.size (ext_trans (ext_trans YW.out (ext_alloc _ _)) (ext_alloc _ _)).size) ?_
             intro v9 w9 ho9 hgr9 hw9
             have RR := push_ins HRW.out y G2.out YW.out ho9 hgr9 hw9
             have R1 := Lib.hid RR.1
             have R2 := Lib.hid RR.2
             have C9 : w9.cell? (ad.add (j * 2)) = some (.int .i32 r) ∧ w9.cell? { block := (ad.add (j * 2)).block, off := (ad.add (j * 2)).off + 1 } = some (.slice As s.length cs) := cl_cells (HC.out.keep (w' := w9) fun q hq => (R2.out.cell (by rw [hq, add_block]; exact HAD.out)).trans (y.cell (by rw [hq, add_block]; exact HAD.out)).symm)
             clear ho9 hgr9 hw9 RR))
        all_goals
          go_wp2_with (fail)
          go_roundg (q - (m + 1))
        all_goals first
          | (have := HG.out; clear w1 w2 w3 hw2; omega)
          | (refine ⟨m + 1, D ++ [⟨opI [r] s, some ⟨wr.heap.size, 0, none⟩, 1, As, cs, none, 0⟩], by clear w1 w2 w3 hw2; omega, rfl, by have := HJ.out; clear w1 w2 w3 hw2; first | go_num | (congr 1; omega), by simp; clear w1 w2 w3 hw2; omega, R1.out, Lib.hid ?_, R2.out⟩
             rw [List.take_add_one, HX1.out, List.map_append, ← List.append_assoc, ← HD.out]
             unfold osOf; rw [List.map_append]; rfl)
      have hlt' : ¬ ((b + m : Nat) : Int) < (bq : Int) := by have := BQ.out; clear w1 w2 w3; omega
      have hmq : m = q := by omega
      have OB : Hid (osOf D = retsO b ++ (((clsOf e).drop b).take q).map insO1) := Lib.hid (by rw [← hmq]; exact HD.out)
      clear HD HG
      obtain ⟨wr1, hwv⟩ : ∃ X, X = wr := ⟨_, rfl⟩
      subst hwv
      by_cases hg0 : 0 < g
      · have hg1 : (b : Int) < (bg : Int) := by have := BG.out; clear w1 w2 w3; omega
        have E0 : Hid (delsO g = [opD (g : Int)]) := Lib.hid (if_pos hg0)
        go_wp2_with ((at_builtin; refine app_os (l := D) (m := [⟨opD (g : Int), none, 0, none, 0, none, 0⟩]) rfl (.tmp 67) (.tmp 75) rfl rfl (by exact HRW.out.own.alloc _) _ _ 1 1 rfl rfl (by exact rd_one (enc := OpS.enc) (size := 5) _ _ (⟨opD (g : Int), none, 0, none, 0, none, 0⟩ : OpS) rfl) (by have := BN.out; have := NN.out; simp only [List.length_singleton]; clear w1 w2 w3; omega) (by exact Nat.le_trans y.size (ext_alloc _ _).size) ?_; intro v3 w3' ho3 g3 hv3))
        have RR := push_bare HRW.out y rfl rfl rfl ho3 g3 hv3
        have RB := Lib.hid RR.1
        have YC := Lib.hid RR.2
        have OC : Hid (osOf (D ++ [⟨opD (g : Int), none, 0, none, 0, none, 0⟩]) = retsO b ++ (((clsOf e).drop b).take q).map insO1 ++ delsO g ++ ((((clsOf d).drop (b + g)).zip ((clsOf e).drop (b + q))).take 0).map retO) := Lib.hid (by
          rw [E0.out, ← OB.out]; unfold osOf; rw [List.map_append]; simp)
        have DL : Hid ((D ++ [(⟨opD (g : Int), none, 0, none, 0, none, 0⟩ : OpS)]).length ≤ 402) := Lib.hid (by have := BN.out; have := NN.out; rw [List.length_append, List.length_singleton]; clear w1 w2 w3; omega)
        clear ho3 g3 hv3 RR E0 OB HRW y
        go_wp2_with (fail)
        go_loopg [10, 12] k (fun gk ov iv wr => ∃ (m : Nat) (D : List OpS), m ≤ k ∧ gk = k - m ∧ iv = .int .i64 ((k - m : Nat) : Int) ∧ D.length ≤ 402 + m ∧ RowF wr (fun _ => False) wb0.heap.size ov D ∧ Hid (osOf D = retsO b ++ (((clsOf e).drop b).take q).map insO1 ++ delsO g ++ ((((clsOf d).drop (b + g)).zip ((clsOf e).drop (b + q))).take m).map retO) ∧ Below wb0.heap.size wb0 wr)
        case atStart => exact ⟨0, _, Nat.zero_le _, rfl, rfl, DL.out, RB.out, OC, YC.out⟩
        case round =>
          clear RB OC YC DL hg1 hg0 hdl hlt hlt' hmq hm
          obtain ⟨m, D, hm, hgk, rfl, hdl, hrow, HD, y⟩ := hrel
          have HG := Lib.hid hgk
          have HRW := Lib.hid hrow
          clear hgk hrow
          by_cases hlt : m < k
          · obtain ⟨i, hi⟩ : ∃ X, k - m = X := ⟨_, rfl⟩
            have HI := Lib.hid hi
            rw [hi]
            have hi1 : (1 : Int) ≤ (i : Int) := by clear w1 w2 w3; omega
            obtain ⟨j1, hj1⟩ : ∃ X, bg + m = X := ⟨_, rfl⟩
            obtain ⟨j2, hj2⟩ : ∃ X, bq + m = X := ⟨_, rfl⟩
            have e1 : (n1 : Int) - (i : Int) = (j1 : Int) := by have := NN.out; have := BG.out; clear w1 w2 w3; omega
            have e2 : (n2 : Int) - (i : Int) = (j2 : Int) := by have := NN.out; have := BQ.out; clear w1 w2 w3; omega
            have u1 : IntKind.i64.wrap ((n1 : Int) - (i : Int)) = (j1 : Int) := by rw [e1]; exact IntWalk.i64_in _ (by clear w1 w2 w3; omega)
            have u2 : IntKind.i64.wrap ((n2 : Int) - (i : Int)) = (j2 : Int) := by rw [e2]; exact IntWalk.i64_in _ (by clear w1 w2 w3 u1; omega)
            have e3 : (i : Int) - 1 = ((k - (m + 1) : Nat) : Int) := by clear w1 w2 w3 u1 u2; omega
            have u3 : IntKind.i64.wrap ((i : Int) - 1) = ((k - (m + 1) : Nat) : Int) := by rw [e3]; exact IntWalk.i64_in _ (by have := BN.out; have := NN.out; clear w1 w2 w3 u1 u2; omega)
            have l1 : (j1 : Int) < (n1 : Int) := by clear w1 w2 w3 u1 u2 u3; omega
            have l2 : (j2 : Int) < (n2 : Int) := by clear w1 w2 w3 u1 u2 u3; omega
            have l3 : j1 < n1 := by clear w1 w2 w3 u1 u2 u3; omega
            have l4 : j2 < n2 := by clear w1 w2 w3 u1 u2 u3; omega
            obtain ⟨ad, x, rfl, _, _, hx1, hc1⟩ := (D1.out.rd.ext y).1.el (i := j1) (by rw [← D1.out.len]; exact l3)
            obtain ⟨ad2, z, rfl, _, _, hz1, hc2⟩ := (D2.out.rd.ext y).1.el (i := j2) (by rw [← D2.out.len]; exact l4)
            have HZ : Hid (((((clsOf d).drop (b + g)).zip ((clsOf e).drop (b + q))))[m]? = some (x.c, z.c)) := Lib.hid (by
              rw [List.getElem?_zip_eq_some]
              exact ⟨by rw [List.getElem?_drop, BG.out, hj1]; exact clsOf_at hx1, by rw [List.getElem?_drop, BQ.out, hj2]; exact clsOf_at hz1⟩)
            have mx := mem_cls (List.mem_of_getElem? hx1)
            have mz := mem_cls (List.mem_of_getElem? hz1)
            have RI : Hid ((riseA x.c.s = true ∧ x.c.s.length ≤ 64) ∧ riseA z.c.s = true ∧ z.c.s.length ≤ 64) := Lib.hid ⟨⟨(diff_sets M1.out _ mx).2, (diff_sets M1.out _ mx).1⟩, (diff_sets M2.out _ mz).2, (diff_sets M2.out _ mz).1⟩
            have g1 := D1.out.rd.2 x (List.mem_of_getElem? hx1)
            have g2 := D2.out.rd.2 z (List.mem_of_getElem? hz1)
            have A1D : Hid (ad.block < wb0.heap.size ∧ ad2.block < wb0.heap.size) := Lib.hid ⟨by
              obtain ⟨ad', e', hb', _⟩ := D1.out.rd.1 (by rw [← D1.out.len]; clear w1 w2 w3 u1 u2 u3; omega)
              injection e' with e'; subst e'; exact hb', by
              obtain ⟨ad', e', hb', _⟩ := D2.out.rd.1 (by rw [← D2.out.len]; clear w1 w2 w3 u1 u2 u3; omega)
              injection e' with e'; subst e'; exact hb'⟩
            obtain ⟨⟨r1, s1⟩, As1, cs1⟩ := x
            obtain ⟨⟨r2, s2⟩, As2, cs2⟩ := z
            simp only at g1 g2 HZ RI
            have HC1 := Lib.hid hc1
            have HC2 := Lib.hid hc2
            have G1 := Lib.hid g1
            have G2 := Lib.hid g2
            clear hc1 hc2 hx1 hz1 g1 g2 mx mz hi hj1 hj2 e1 e2 e3
            have opb : ∀ {W : World}, Below wb0.heap.size wb0 W → W.cell? { block := (ad.add (j1 * 2)).block, off := (ad.add (j1 * 2)).off + 1 } = some (.slice As1 s1.length cs1) ∧ W.cell? { block := (ad2.add (j2 * 2)).block, off := (ad2.add (j2 * 2)).off + 1 } = some (.slice As2 s2.length cs2) := fun {W} yw =>
              ⟨(cl_cells (HC1.out.keep (w' := W) fun q hq => (yw.cell (by rw [hq, add_block]; exact A1D.out.1)).trans (y.cell (by rw [hq, add_block]; exact A1D.out.1)).symm)).2,
               (cl_cells (HC2.out.keep (w' := W) fun q hq => (yw.cell (by rw [hq, add_block]; exact A1D.out.2)).trans (y.cell (by rw [hq, add_block]; exact A1D.out.2)).symm)).2⟩
            have YW : Hid (Below wr.heap.size wr wr.drew) := Lib.hid (up_drew (Below.refl _ _))
            have YZ : Hid (Below wr.heap.size wr wr) := Lib.hid (Below.refl _ _)
            have YR := Lib.hid y
            have Cw := opb y
            obtain ⟨P, hP⟩ : ∃ X, diffP s1 s2 = X := ⟨_, rfl⟩
            have HP : Hid (diffR s1 s2 = P) := Lib.hid (by rw [diffR_is RI.out.1.1 RI.out.2.1, hP])
            have HPD := Lib.hid hP
            have PL : Hid (P.length ≤ 1000) := Lib.hid (by rw [← hP]; have := diff_len RI.out.1.1 RI.out.2.1; have := RI.out; omega)
            clear hP
            go_wp2_with (fail)
            go_region_held_law (fun w' => w'.cell? { block := (ad.add (j1 * 2)).block, off := (ad.add (j1 * 2)).off + 1 } = some (.slice As1 s1.length cs1) ∧ w'.cell? { block := (ad2.add (j2 * 2)).block, off := (ad2.add (j2 * 2)).off + 1 } = some (.slice As2 s2.length cs2)) (first | exact C9 | exact C8 | exact opb (ext_trans YR.out (by repeat (first | exact YW.out | exact YZ.out | refine ext_trans ?_ (ext_alloc _ _) | refine up_drew ?_)))) (first
              | (refine step_fn rfl 86 [.tmp 90, .tmp 98] #[36, 36] rfl Tryz.f86 (by kernel_rfl) (by kernel_rfl) (by kernel_rfl) [.slice As1 s1.length cs1, .slice As2 s2.length cs2] (by rfl) (diff06_any As1 As2 s1.length cs1 s2.length cs2 s1 s2 _ rfl rfl (G1.out.ext (ext_trans YR.out (by repeat (first | exact YW.out | exact YZ.out | refine ext_trans ?_ (ext_alloc _ _) | refine up_drew ?_)))) (G2.out.ext (ext_trans YR.out (by repeat (first | exact YW.out | exact YZ.out | refine ext_trans ?_ (ext_alloc _ _) | refine up_drew ?_)))) (by have := RI.out; clear w1 w2 w3 u1 u2 u3; omega) (by have := RI.out; clear w1 w2 w3 u1 u2 u3; omega)) ?_
                 rw [HP.out]
                 rintro e7 w7 ⟨A7, c7, rfl, o7, y7⟩
                 refine ⟨_, rfl, ?_⟩
                 have O7 := Lib.hid o7
                 have YW : Hid (Below wr.heap.size wr w7) := Lib.hid (ext_trans (by repeat (first | exact YW.out | exact YZ.out | refine ext_trans ?_ (ext_alloc _ _) | refine up_drew ?_)) y7)
                 have C8 := opb (ext_trans YR.out YW.out)
                 clear o7 y7)
              | (refine step_os (l := D) (m := [(⟨opR 1 P, none, 0, none, 0, A7, c7⟩ : OpS)]) rfl (.tmp 82) (.tmp 101) (by rfl) (by rfl) (HRW.out.own.below (ext_trans YW.out (ext_alloc _ _)) (Nat.le_refl _)) _ _ 1 1 (by rfl) rfl (rd_one_at (enc := OpS.enc) (size := 5) _ _ (⟨opR 1 P, none, 0, none, 0, A7, c7⟩ : OpS) rfl (by simp)) (by have := BN.out; have := NN.out; simp only [List.length_singleton]; clear w1 w2 w3 u1 u2 u3; omega) (Nat.le_trans YR.out.size (ext_trans YW.out (ext_alloc _ _)).size) ?_
                 intro v9 w9 ho9 hgr9 hw9
                 have RR := push_ret HRW.out YR.out YW.out (O7.out.base_le (by simp)) ho9 hgr9 hw9
                 have R1 := Lib.hid RR.1
                 have R2 := Lib.hid RR.2
                 have C9 := opb R2.out
                 clear ho9 hgr9 hw9 RR))
            all_goals
              go_wp2_with (fail)
              go_roundg (k - (m + 1))
            all_goals first
              | (have := HG.out; clear w1 w2 w3 u1 u2 u3; omega)
              | (refine ⟨m + 1, D ++ [⟨opR 1 P, none, 0, none, 0, A7, c7⟩], by clear w1 w2 w3 u1 u2 u3; omega, rfl, rfl, by simp; clear w1 w2 w3 u1 u2 u3; omega, R1.out, Lib.hid ?_, R2.out⟩
                 rw [List.take_add_one, HZ.out, List.map_append, ← List.append_assoc, ← HD.out]
                 unfold osOf; rw [List.map_append]
                 show _ = _ ++ [opR 1 (diffP s1 s2)]
                 rw [HPD.out]; rfl)
          have hmk : m = k := by omega
          have hi0 : ¬ (1 : Int) ≤ ((k - m : Nat) : Int) := by clear w1 w2 w3; omega
          have ED : Hid (osOf D = diffO (clsOf d) (clsOf e)) := Lib.hid (by rw [EO.out, HD.out, hmk])
          clear HD HG w1 w2 w3
          obtain ⟨A4, k4, hv4, hk4, _⟩ := HRW.out.own.form
          subst hv4
          have RD : Hid (RdOp wr wr.heap.size A4 D) := Lib.hid ⟨HRW.out.own.rd OpS.enc_len, fun z hz => ⟨(HRW.out.parts z hz).1.1, (HRW.out.parts z hz).2.1.1, (HRW.out.parts z hz).2.2.1⟩⟩
          have CA : Hid (D.length ≤ k4) := Lib.hid hk4
          have MO : Hid (∀ o ∈ D, o.o ∈ diffO (clsOf d) (clsOf e)) := Lib.hid (fun o ho => by rw [← ED.out]; unfold osOf; exact List.mem_map_of_mem ho)
          have ZN : Hid (szN D ≤ 1000000) := Lib.hid (by
            rw [szN_os]
            have h := sum_le2 (fun o : Opd => 1 + o.r.length) 2 (osOf D) (fun o ho => by rw [ED.out] at ho; have := (SO.out o ho).1; omega)
            unfold osOf at h
            rw [List.length_map] at h
            unfold osOf
            have := BN.out; have := NN.out
            omega)
          have YF := Lib.hid (ext_trans YB.out y)
          clear hi0 hk4
          have hi0 : ¬ (1 : Int) ≤ ((k - m : Nat) : Int) := by omega
          go_wp2_with (go_at_call 79; refine Hid.out ?_)
          refine Lib.hid ?_
          refine (of16_any A4 D.length k4 D wr rfl CA.out RD.out (fun o ho => diffO_isOp _ _ _ (MO.out o ho)) ZN.out (fun o ho => (SO.out _ (MO.out o ho)).2)).mono ?_
          rw [ED.out, of_is (diffO_isOp _ _) UB.out, diffO_units, HX.out]
          intro e5 w5 hN
          have hN2 := hN.late YF.out
          obtain ⟨A2, c2, l2, rfl, hM⟩ := hN2
          have HM := Lib.hid hM
          clear hM hN
          go_wp2_with (fail)
          refine bodyPost_ret (v := .tuple #[.slice A2 l2.length c2, .int .i64 0]) (by simp [results, Tryz.results29, go_sem]) rfl ?_
          exact ⟨A2, c2, l2, rfl, HM.out⟩
      · have hg1 : ¬ (b : Int) < (bg : Int) := by have := BG.out; clear w1 w2 w3; omega
        have RB := HRW
        have YC := Lib.hid y
        have OC : Hid (osOf D = retsO b ++ (((clsOf e).drop b).take q).map insO1 ++ delsO g ++ ((((clsOf d).drop (b + g)).zip ((clsOf e).drop (b + q))).take 0).map retO) := Lib.hid (by
          rw [show delsO g = [] from if_neg hg0, ← OB.out]; simp)
        have DL : Hid (D.length ≤ 402) := Lib.hid (by have := BN.out; have := NN.out; clear w1 w2 w3; omega)
        clear OB HRW y
        go_wp2_with (fail)
        go_loopg [10, 12] k (fun gk ov iv wr => ∃ (m : Nat) (D : List OpS), m ≤ k ∧ gk = k - m ∧ iv = .int .i64 ((k - m : Nat) : Int) ∧ D.length ≤ 402 + m ∧ RowF wr (fun _ => False) wb0.heap.size ov D ∧ Hid (osOf D = retsO b ++ (((clsOf e).drop b).take q).map insO1 ++ delsO g ++ ((((clsOf d).drop (b + g)).zip ((clsOf e).drop (b + q))).take m).map retO) ∧ Below wb0.heap.size wb0 wr)
        case atStart => exact ⟨0, _, Nat.zero_le _, rfl, rfl, DL.out, RB.out, OC, YC.out⟩
        case round =>
          clear RB OC YC DL hg1 hg0 hdl hlt hlt' hmq hm
          obtain ⟨m, D, hm, hgk, rfl, hdl, hrow, HD, y⟩ := hrel
          have HG := Lib.hid hgk
          have HRW := Lib.hid hrow
          clear hgk hrow
          by_cases hlt : m < k
          · obtain ⟨i, hi⟩ : ∃ X, k - m = X := ⟨_, rfl⟩
            have HI := Lib.hid hi
            rw [hi]
            have hi1 : (1 : Int) ≤ (i : Int) := by clear w1 w2 w3; omega
            obtain ⟨j1, hj1⟩ : ∃ X, bg + m = X := ⟨_, rfl⟩
            obtain ⟨j2, hj2⟩ : ∃ X, bq + m = X := ⟨_, rfl⟩
            have e1 : (n1 : Int) - (i : Int) = (j1 : Int) := by have := NN.out; have := BG.out; clear w1 w2 w3; omega
            have e2 : (n2 : Int) - (i : Int) = (j2 : Int) := by have := NN.out; have := BQ.out; clear w1 w2 w3; omega
            have u1 : IntKind.i64.wrap ((n1 : Int) - (i : Int)) = (j1 : Int) := by rw [e1]; exact IntWalk.i64_in _ (by clear w1 w2 w3; omega)
            have u2 : IntKind.i64.wrap ((n2 : Int) - (i : Int)) = (j2 : Int) := by rw [e2]; exact IntWalk.i64_in _ (by clear w1 w2 w3 u1; omega)
            have e3 : (i : Int) - 1 = ((k - (m + 1) : Nat) : Int) := by clear w1 w2 w3 u1 u2; omega
            have u3 : IntKind.i64.wrap ((i : Int) - 1) = ((k - (m + 1) : Nat) : Int) := by rw [e3]; exact IntWalk.i64_in _ (by have := BN.out; have := NN.out; clear w1 w2 w3 u1 u2; omega)
            have l1 : (j1 : Int) < (n1 : Int) := by clear w1 w2 w3 u1 u2 u3; omega
            have l2 : (j2 : Int) < (n2 : Int) := by clear w1 w2 w3 u1 u2 u3; omega
            have l3 : j1 < n1 := by clear w1 w2 w3 u1 u2 u3; omega
            have l4 : j2 < n2 := by clear w1 w2 w3 u1 u2 u3; omega
            obtain ⟨ad, x, rfl, _, _, hx1, hc1⟩ := (D1.out.rd.ext y).1.el (i := j1) (by rw [← D1.out.len]; exact l3)
            obtain ⟨ad2, z, rfl, _, _, hz1, hc2⟩ := (D2.out.rd.ext y).1.el (i := j2) (by rw [← D2.out.len]; exact l4)
            have HZ : Hid (((((clsOf d).drop (b + g)).zip ((clsOf e).drop (b + q))))[m]? = some (x.c, z.c)) := Lib.hid (by
              rw [List.getElem?_zip_eq_some]
              exact ⟨by rw [List.getElem?_drop, BG.out, hj1]; exact clsOf_at hx1, by rw [List.getElem?_drop, BQ.out, hj2]; exact clsOf_at hz1⟩)
            have mx := mem_cls (List.mem_of_getElem? hx1)
            have mz := mem_cls (List.mem_of_getElem? hz1)
            have RI : Hid ((riseA x.c.s = true ∧ x.c.s.length ≤ 64) ∧ riseA z.c.s = true ∧ z.c.s.length ≤ 64) := Lib.hid ⟨⟨(diff_sets M1.out _ mx).2, (diff_sets M1.out _ mx).1⟩, (diff_sets M2.out _ mz).2, (diff_sets M2.out _ mz).1⟩
            have g1 := D1.out.rd.2 x (List.mem_of_getElem? hx1)
            have g2 := D2.out.rd.2 z (List.mem_of_getElem? hz1)
            have A1D : Hid (ad.block < wb0.heap.size ∧ ad2.block < wb0.heap.size) := Lib.hid ⟨by
              obtain ⟨ad', e', hb', _⟩ := D1.out.rd.1 (by rw [← D1.out.len]; clear w1 w2 w3 u1 u2 u3; omega)
              injection e' with e'; subst e'; exact hb', by
              obtain ⟨ad', e', hb', _⟩ := D2.out.rd.1 (by rw [← D2.out.len]; clear w1 w2 w3 u1 u2 u3; omega)
              injection e' with e'; subst e'; exact hb'⟩
            obtain ⟨⟨r1, s1⟩, As1, cs1⟩ := x
            obtain ⟨⟨r2, s2⟩, As2, cs2⟩ := z
            simp only at g1 g2 HZ RI
            have HC1 := Lib.hid hc1
            have HC2 := Lib.hid hc2
            have G1 := Lib.hid g1
            have G2 := Lib.hid g2
            clear hc1 hc2 hx1 hz1 g1 g2 mx mz hi hj1 hj2 e1 e2 e3
            have opb : ∀ {W : World}, Below wb0.heap.size wb0 W → W.cell? { block := (ad.add (j1 * 2)).block, off := (ad.add (j1 * 2)).off + 1 } = some (.slice As1 s1.length cs1) ∧ W.cell? { block := (ad2.add (j2 * 2)).block, off := (ad2.add (j2 * 2)).off + 1 } = some (.slice As2 s2.length cs2) := fun {W} yw =>
              ⟨(cl_cells (HC1.out.keep (w' := W) fun q hq => (yw.cell (by rw [hq, add_block]; exact A1D.out.1)).trans (y.cell (by rw [hq, add_block]; exact A1D.out.1)).symm)).2,
               (cl_cells (HC2.out.keep (w' := W) fun q hq => (yw.cell (by rw [hq, add_block]; exact A1D.out.2)).trans (y.cell (by rw [hq, add_block]; exact A1D.out.2)).symm)).2⟩
            have YW : Hid (Below wr.heap.size wr wr.drew) := Lib.hid (up_drew (Below.refl _ _))
            have YZ : Hid (Below wr.heap.size wr wr) := Lib.hid (Below.refl _ _)
            have YR := Lib.hid y
            have Cw := opb y
            obtain ⟨P, hP⟩ : ∃ X, diffP s1 s2 = X := ⟨_, rfl⟩
            have HP : Hid (diffR s1 s2 = P) := Lib.hid (by rw [diffR_is RI.out.1.1 RI.out.2.1, hP])
            have HPD := Lib.hid hP
            have PL : Hid (P.length ≤ 1000) := Lib.hid (by rw [← hP]; have := diff_len RI.out.1.1 RI.out.2.1; have := RI.out; omega)
            clear hP
            go_wp2_with (fail)
            go_region_held_law (fun w' => w'.cell? { block := (ad.add (j1 * 2)).block, off := (ad.add (j1 * 2)).off + 1 } = some (.slice As1 s1.length cs1) ∧ w'.cell? { block := (ad2.add (j2 * 2)).block, off := (ad2.add (j2 * 2)).off + 1 } = some (.slice As2 s2.length cs2)) (first | exact C9 | exact C8 | exact opb (ext_trans YR.out (by repeat (first | exact YW.out | exact YZ.out | refine ext_trans ?_ (ext_alloc _ _) | refine up_drew ?_)))) (first
              | (refine step_fn rfl 86 [.tmp 90, .tmp 98] #[36, 36] rfl Tryz.f86 (by kernel_rfl) (by kernel_rfl) (by kernel_rfl) [.slice As1 s1.length cs1, .slice As2 s2.length cs2] (by rfl) (diff06_any As1 As2 s1.length cs1 s2.length cs2 s1 s2 _ rfl rfl (G1.out.ext (ext_trans YR.out (by repeat (first | exact YW.out | exact YZ.out | refine ext_trans ?_ (ext_alloc _ _) | refine up_drew ?_)))) (G2.out.ext (ext_trans YR.out (by repeat (first | exact YW.out | exact YZ.out | refine ext_trans ?_ (ext_alloc _ _) | refine up_drew ?_)))) (by have := RI.out; clear w1 w2 w3 u1 u2 u3; omega) (by have := RI.out; clear w1 w2 w3 u1 u2 u3; omega)) ?_
                 rw [HP.out]
                 rintro e7 w7 ⟨A7, c7, rfl, o7, y7⟩
                 refine ⟨_, rfl, ?_⟩
                 have O7 := Lib.hid o7
                 have YW : Hid (Below wr.heap.size wr w7) := Lib.hid (ext_trans (by repeat (first | exact YW.out | exact YZ.out | refine ext_trans ?_ (ext_alloc _ _) | refine up_drew ?_)) y7)
                 have C8 := opb (ext_trans YR.out YW.out)
                 clear o7 y7)
              | (refine step_os (l := D) (m := [(⟨opR 1 P, none, 0, none, 0, A7, c7⟩ : OpS)]) rfl (.tmp 82) (.tmp 101) (by rfl) (by rfl) (HRW.out.own.below (ext_trans YW.out (ext_alloc _ _)) (Nat.le_refl _)) _ _ 1 1 (by rfl) rfl (rd_one_at (enc := OpS.enc) (size := 5) _ _ (⟨opR 1 P, none, 0, none, 0, A7, c7⟩ : OpS) rfl (by simp)) (by have := BN.out; have := NN.out; simp only [List.length_singleton]; clear w1 w2 w3 u1 u2 u3; omega) (Nat.le_trans YR.out.size (ext_trans YW.out (ext_alloc _ _)).size) ?_
                 intro v9 w9 ho9 hgr9 hw9
                 have RR := push_ret HRW.out YR.out YW.out (O7.out.base_le (by simp)) ho9 hgr9 hw9
                 have R1 := Lib.hid RR.1
                 have R2 := Lib.hid RR.2
                 have C9 := opb R2.out
                 clear ho9 hgr9 hw9 RR))
            all_goals
              go_wp2_with (fail)
              go_roundg (k - (m + 1))
            all_goals first
              | (have := HG.out; clear w1 w2 w3 u1 u2 u3; omega)
              | (refine ⟨m + 1, D ++ [⟨opR 1 P, none, 0, none, 0, A7, c7⟩], by clear w1 w2 w3 u1 u2 u3; omega, rfl, rfl, by simp; clear w1 w2 w3 u1 u2 u3; omega, R1.out, Lib.hid ?_, R2.out⟩
                 rw [List.take_add_one, HZ.out, List.map_append, ← List.append_assoc, ← HD.out]
                 unfold osOf; rw [List.map_append]
                 show _ = _ ++ [opR 1 (diffP s1 s2)]
                 rw [HPD.out]; rfl)
          have hmk : m = k := by omega
          have hi0 : ¬ (1 : Int) ≤ ((k - m : Nat) : Int) := by clear w1 w2 w3; omega
          have ED : Hid (osOf D = diffO (clsOf d) (clsOf e)) := Lib.hid (by rw [EO.out, HD.out, hmk])
          clear HD HG w1 w2 w3
          obtain ⟨A4, k4, hv4, hk4, _⟩ := HRW.out.own.form
          subst hv4
          have RD : Hid (RdOp wr wr.heap.size A4 D) := Lib.hid ⟨HRW.out.own.rd OpS.enc_len, fun z hz => ⟨(HRW.out.parts z hz).1.1, (HRW.out.parts z hz).2.1.1, (HRW.out.parts z hz).2.2.1⟩⟩
          have CA : Hid (D.length ≤ k4) := Lib.hid hk4
          have MO : Hid (∀ o ∈ D, o.o ∈ diffO (clsOf d) (clsOf e)) := Lib.hid (fun o ho => by rw [← ED.out]; unfold osOf; exact List.mem_map_of_mem ho)
          have ZN : Hid (szN D ≤ 1000000) := Lib.hid (by
            rw [szN_os]
            have h := sum_le2 (fun o : Opd => 1 + o.r.length) 2 (osOf D) (fun o ho => by rw [ED.out] at ho; have := (SO.out o ho).1; omega)
            unfold osOf at h
            rw [List.length_map] at h
            unfold osOf
            have := BN.out; have := NN.out
            omega)
          have YF := Lib.hid (ext_trans YB.out y)
          clear hi0 hk4
          have hi0 : ¬ (1 : Int) ≤ ((k - m : Nat) : Int) := by omega
          go_wp2_with (go_at_call 79; refine Hid.out ?_)
          refine Lib.hid ?_
          refine (of16_any A4 D.length k4 D wr rfl CA.out RD.out (fun o ho => diffO_isOp _ _ _ (MO.out o ho)) ZN.out (fun o ho => (SO.out _ (MO.out o ho)).2)).mono ?_
          rw [ED.out, of_is (diffO_isOp _ _) UB.out, diffO_units, HX.out]
          intro e5 w5 hN
          have hN2 := hN.late YF.out
          obtain ⟨A2, c2, l2, rfl, hM⟩ := hN2
          have HM := Lib.hid hM
          clear hM hN
          go_wp2_with (fail)
          refine bodyPost_ret (v := .tuple #[.slice A2 l2.length c2, .int .i64 0]) (by simp [results, Tryz.results29, go_sem]) rfl ?_
          exact ⟨A2, c2, l2, rfl, HM.out⟩
end Go.Proofs.YtfnkjcodcoehcaaGreatDoor
