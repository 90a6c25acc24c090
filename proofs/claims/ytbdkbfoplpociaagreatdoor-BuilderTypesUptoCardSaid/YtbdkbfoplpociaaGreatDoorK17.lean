/- Merged texts: OpPlace, OpFits, OpLaw. -/
import Derived.Deep.RegionHeld3
import Derived.Test.YtbdkbfoplpociaaGreatDoorK15
import Derived.Test.YtbdkbfoplpociaaGreatDoorK16
import Derived.Test.YtbdkbfoplpociaaGreatDoorK3
namespace Go.Proofs.YtbdkbfoplpociaaGreatDoor
open Go.RowKit
set_option linter.unusedVariables false
set_option linter.unusedSimpArgs false

/-- is an op's insert in place? -/
def placeO (l : List Ky) (o : Opd) : Bool :=
  if o.k = 2 ∧ 0 < o.s.length then
    !((decide (0 < (partS l true o.s).length) || decide (0 < nlR o.r)) && (decide ((partS l true o.s).length < o.s.length) || decide (nlR o.r < o.r.length)))
  else true
def placeP (l : List Ky) (x : List OpS) : Bool := x.all (fun o => placeO l o.o)
theorem place_drop {l : List Ky} {x : List OpS} {m : Nat} {o : OpS} {R : Bool} (hd : x.drop m = o :: x.drop (m + 1)) (h : placeP l (x.drop m) = R) : (placeO l o.o && placeP l (x.drop (m + 1))) = R := by
  rw [hd] at h; exact h
set_option maxRecDepth 100000 in
set_option maxHeartbeats 3200000 in
theorem inPlace_any (sc : Nat) (l : List Ky) (A : Option Addr) (n c : Nat) (x : List OpS) (w : World) (hn : n = x.length) (h : RdOp w w.heap.size A x) (hb : n ≤ 140737488355328) (hS : Sch w sc l) (ho : ∀ o ∈ x, okOp o.o) :
    Calls Tryz.prog 181 #[.pointer (some ⟨sc, 0, none⟩), .slice A n c] w fun e w' => e = .returned (.bool (placeP l x)) ∧ Below w.heap.size w w' := by
  have N := Lib.hid hn
  generalize hR : placeP l x = R
  have HR := Lib.hid hR
  clear hn hR
  go_enter Tryz.func181, Tryz.ntmps181
  go_wp2_with (fail)
  go_loopg [11] n (fun g iv wr => ∃ (m : Nat), m ≤ n ∧ g = n - m ∧ iv = .int .i64 (m : Int) ∧ Below w.heap.size w wr ∧ Hid (placeP l (x.drop m) = R))
  case atStart => exact ⟨0, by omega, rfl, rfl, Below.refl _ _, Lib.hid (by rw [List.drop_zero]; exact HR.out)⟩
  case round =>
    obtain ⟨m, hm, hg, rfl, y, HI⟩ := hrel
    have HG := Lib.hid hg
    clear hg HR
    by_cases hlt : m < n
    · have hl1 : m < x.length := by have := N.out; omega
      obtain ⟨ad, o, had0, had, hd1, hx1, hc0⟩ := (h.1.below y (Nat.le_refl _)).el hl1
      subst had0
      have hmem := List.mem_of_getElem? hx1
      obtain ⟨q1, q2, q3, q4, q5⟩ := ho o hmem
      obtain ⟨g1, g2, g3⟩ := h.2 o hmem
      have HI2 := Lib.hid (place_drop hd1 HI.out)
      obtain ⟨⟨k, nn, r, s, p⟩, Ar, cr, As, cs, Ap, cp⟩ := o
      obtain ⟨r0, r1, r2, r3, r4⟩ := op_cells hc0
      simp only at g1 g2 g3 q3 q4 q5
      have y2 := ext_trans y (ext_alloc wr (.cells #[.int .u8 k, .int .i64 nn, .slice Ar r.length cr, .slice As s.length cs, .slice Ap p.length cp] 40))
      have hbx := heap_alloc_new wr (.cells #[.int .u8 k, .int .i64 nn, .slice Ar r.length cr, .slice As s.length cs, .slice Ap p.length cp] 40)
      have hw2 : IntKind.i64.wrap ((m:Int) + 1) = (m : Int) + 1 := IntWalk.i64_in _ (by omega)
      have HBX := Lib.hid hbx
      clear hc0 hd1 hx1 hmem HI hbx
      by_cases hk : k = 2
      · subst hk
        by_cases hs : s.length = 0
        · have hs0 : ((s.length : Int) == 0) = true := by rw [hs]; rfl
          have HP : Hid (placeO l ⟨2, nn, r, s, p⟩ = true) := Lib.hid (by unfold placeO; rw [if_neg (by simp only; omega)])
          clear hs
          go_wp2_with (fail)
          go_roundg (n - (m + 1))
          case measure => have := HG.out; omega
          case rel => exact ⟨m + 1, by omega, rfl, by go_num, y2, Lib.hid (by rw [← HI2.out, HP.out, Bool.true_and])⟩
        · have hs0 : ((s.length : Int) == 0) = false := beq_eq_false_iff_ne.2 (fun e => hs (by omega))
          obtain ⟨ns, hns⟩ : ∃ X, s.length = X := ⟨_, rfl⟩
          obtain ⟨nr, hnr⟩ : ∃ X, r.length = X := ⟨_, rfl⟩
          obtain ⟨np, hnp⟩ : ∃ X, p.length = X := ⟨_, rfl⟩
          have NS := Lib.hid hns
          have NR := Lib.hid hnr
          rw [hns] at r3 hs hs0 q4
          rw [hnr] at r2 q3
          rw [hnp] at r4
          rw [hns, hnr, hnp] at y2
          have HBX2 := HBX.out
          rw [hns, hnr, hnp] at HBX2
          have HBX := Lib.hid HBX2
          clear hns hnr hnp HBX2
          go_wp2_with (fail)
          obtain ⟨B, hB⟩ : ∃ X, wr.heap.size = X := ⟨_, rfl⟩
          rw [hB] at HBX ⊢
          generalize wr.alloc (.cells #[.int .u8 2, .int .i64 nn, .slice Ar nr cr, .slice As ns cs, .slice Ap np cp] 40) = w5 at *
          have hS5 := hS.ext y2
          have ha5 := g2.ext y2
          have hr5 := g1.ext y2
          obtain ⟨c0, c1, c2, c3, c4⟩ := box_at HBX.out
          have hBl := lt_of_some HBX.out
          have yd : Below w5.heap.size w5 w5.drew := (Below.refl _ _).drew
          have hS6 := hS5.ext yd
          have ha6 := ha5.ext yd
          have hr6 := hr5.ext yd
          have HBX6 := Lib.hid ((yd.block B hBl).trans HBX.out)
          have hBl6 := lt_of_some HBX6.out
          clear r0 r1 r2 r3 r4 c0 c1 c4
          go_region_held3 (fun w' => w'.cell? ⟨B, 2, none⟩ = some (.slice Ar nr cr) ∧ w'.cell? ⟨B, 3, none⟩ = some (.slice As ns cs))
            (go_keep) (first
              | (go_at_call 146
                 with_reducible refine (partA_any sc l true As ns cs s w5.drew NS.out.symm ha6 q4 hS6).mono ?_
                 rintro e w6 ⟨A2, c2', rfl, ho2, y6⟩
                 obtain ⟨f0, f1, f2, f3, f4⟩ := box_at ((y6.block B hBl6).trans HBX6.out))
              | (go_at_call 236
                 with_reducible refine (newlines_any Ar nr cr r w5.drew NR.out.symm hr6 (by omega)).mono ?_
                 rintro e w6 ⟨rfl, rfl⟩)
              | (go_at_call 236
                 with_reducible refine (newlines_any Ar nr cr r w6 NR.out.symm (hr6.ext y6) (by omega)).mono ?_
                 rintro e w7 ⟨rfl, rfl⟩))
          all_goals
            have yy := ext_trans y2 (ext_trans yd y6)
            have HV : Hid (placeO l ⟨2, nn, r, s, p⟩ = !((decide (0 < (partS l true s).length) || decide (0 < nlR r)) && (decide ((partS l true s).length < ns) || decide (nlR r < nr)))) := Lib.hid (by
              unfold placeO
              rw [if_pos (show (2 : Int) = 2 ∧ 0 < s.length from ⟨rfl, by have := NS.out; omega⟩)]
              simp only [NS.out, NR.out])
            generalize (partS l true s).length = nb at *
            generalize nlR r = nl at *
            clear ho2 f0 f1 f4
            by_cases t1 : (0 : Int) < (nb : Int)
            · have t1' : 0 < nb := by omega
              by_cases t3 : (nb : Int) < (ns : Int)
              · have t3' : nb < ns := by omega
                go_wp2_with (fail)
                go_ret
                exact ⟨ret_bool (by rw [← HI2.out, HV.out]; simp [t1', t3']), yy⟩
              by_cases t4 : (nl : Int) < (nr : Int)
              · have t4' : nl < nr := by omega
                go_wp2_with (fail)
                go_ret
                exact ⟨ret_bool (by rw [← HI2.out, HV.out]; simp [t1', t4']), yy⟩
              have t3' : ¬ nb < ns := by omega
              have t4' : ¬ nl < nr := by omega
              go_wp2_with (fail)
              go_roundg (n - (m + 1))
              case measure => have := HG.out; omega
              case rel => exact ⟨m + 1, by omega, rfl, by go_num, yy, Lib.hid (by rw [← HI2.out, HV.out]; simp [t3', t4'])⟩
            by_cases t2 : (0 : Int) < (nl : Int)
            · have t2' : 0 < nl := by omega
              have t3 : (nb : Int) < (ns : Int) := by omega
              have t3' : nb < ns := by omega
              go_wp2_with (fail)
              go_ret
              exact ⟨ret_bool (by rw [← HI2.out, HV.out]; simp [t2', t3']), yy⟩
            have t1' : nb = 0 := by omega
            have t2' : nl = 0 := by omega
            go_wp2_with (fail)
            go_roundg (n - (m + 1))
            case measure => have := HG.out; omega
            case rel => exact ⟨m + 1, by omega, rfl, by go_num, yy, Lib.hid (by rw [← HI2.out, HV.out]; simp [t1', t2'])⟩
      · have hb2 : (k == 2) = false := beq_eq_false_iff_ne.2 hk
        have HP : Hid (placeO l ⟨k, nn, r, s, p⟩ = true) := Lib.hid (by unfold placeO; rw [if_neg (by simp only; omega)])
        clear hk
        go_wp2_with (fail)
        go_roundg (n - (m + 1))
        case measure => have := HG.out; omega
        case rel => exact ⟨m + 1, by omega, rfl, by go_num, y2, Lib.hid (by rw [← HI2.out, HP.out, Bool.true_and])⟩
    · go_wp2_with (fail)
      go_ret
      refine ⟨ret_bool ?_, y⟩
      rw [← HI.out, List.drop_eq_nil_of_le (by have := N.out; omega)]
      rfl
end Go.Proofs.YtbdkbfoplpociaaGreatDoor
namespace Go.Proofs.YtbdkbfoplpociaaGreatDoor
open Go.RowKit
set_option linter.unusedVariables false
set_option linter.unusedSimpArgs false

/-- as long as told behind a delta -/
def longO (n : Int) (x : List OpS) : Int := IntKind.i64.wrap (IntKind.i64.wrap (n - takesP x) + makesP x)
/-- why a delta does not fit a document of n cells -/
def fitsO (l : List Ky) (x : List OpS) (n most : Int) : Int :=
  if ¬ mayO l x = 0 then mayO l x
  else if n < 1 ∨ most < n ∨ n < takesP x then 5
  else if finalP n x = false then 6
  else if placeP l x = false then 7
  else if most < longO n x then 8 else 0

set_option maxRecDepth 100000 in
set_option maxHeartbeats 1600000 in
theorem fitsO_any (sc : Nat) (l : List Ky) (A : Option Addr) (n c : Nat) (x : List OpS) (lim most : Int) (w : World) (hn : n = x.length) (h : RdOp w w.heap.size A x) (hb : n ≤ 140737488355328) (hS : Sch w sc l) (ho : ∀ o ∈ x, okOp o.o) (hT : Lib.Utf8Tabs 1 2 w) :
    Calls Tryz.prog 111 #[.pointer (some ⟨sc, 0, none⟩), .slice A n c, .int .i64 lim, .int .i64 most] w fun e w' => e = .returned (.int .i64 (fitsO l x lim most)) ∧ Below w.heap.size w w' := by
  have N := Lib.hid hn
  obtain ⟨R, hR⟩ : ∃ X, fitsO l x lim most = X := ⟨_, rfl⟩
  rw [hR]
  unfold fitsO at hR
  have HR := Lib.hid hR
  clear hn hR
  have y := Below.refl w.heap.size w
  go_enter Tryz.func111, Tryz.ntmps111
  go_wp2_with (go_at_call 110; refine Hid.out ?_)
  refine Lib.hid ?_
  refine (mayO_any sc l A n c x w N.out h hb hS ho hT).mono ?_
  rintro e w1 ⟨rfl, y1⟩
  replace y := ext_trans y y1
  clear y1
  generalize mayO l x = E at HR ⊢
  by_cases hE : E = 0
  rotate_left
  · have hne : (E == 0) = false := beq_eq_false_iff_ne.2 hE
    have HE : Hid (E = R) := Lib.hid (by rw [← HR.out, if_pos hE])
    clear hE
    go_wp2_with (fail)
    go_ret
    exact ⟨ret_int HE.out, y⟩
  subst hE
  have HR2 : Hid ((if lim < 1 ∨ most < lim ∨ lim < takesP x then 5 else if finalP lim x = false then 6 else if placeP l x = false then 7 else if most < longO lim x then 8 else 0) = R) := Lib.hid (by rw [← HR.out, if_neg (show ¬ ¬ ((0 : Int) = 0) by simp)])
  clear HR
  by_cases h1 : lim < 1
  · go_wp2_with (fail)
    go_ret
    exact ⟨ret_int (by rw [← HR2.out, if_pos (.inl h1)]), y⟩
  by_cases h2 : most < lim
  · go_wp2_with (fail)
    go_ret
    exact ⟨ret_int (by rw [← HR2.out, if_pos (.inr (.inl h2))]), y⟩
  go_wp2_with (go_at_call 104; refine Hid.out ?_)
  refine Lib.hid ?_
  refine (takes_any A n c x _ N.out (h.ext y).1 hb).mono ?_
  rintro e w2 ⟨rfl, y1⟩
  replace y := ext_trans y y1
  clear y1
  obtain ⟨T, hT'⟩ : ∃ X, takesP x = X := ⟨_, rfl⟩
  rw [hT'] at HR2 ⊢
  have HTK := Lib.hid hT'
  clear hT'
  by_cases h3 : lim < T
  · go_wp2_with (fail)
    go_ret
    exact ⟨ret_int (by rw [← HR2.out, if_pos (.inr (.inr h3))]), y⟩
  have HR3 : Hid ((if finalP lim x = false then 6 else if placeP l x = false then 7 else if most < longO lim x then 8 else 0) = R) := Lib.hid (by rw [← HR2.out, if_neg (show ¬ (lim < 1 ∨ most < lim ∨ lim < T) by omega)])
  clear HR2
  go_wp2_with (go_at_call 180; refine Hid.out ?_)
  refine Lib.hid ?_
  refine (final_any A n c x lim _ N.out (h.ext y).1 hb).mono ?_
  rintro e w3 ⟨rfl, y1⟩
  replace y := ext_trans y y1
  clear y1
  generalize finalP lim x = F at HR3 ⊢
  cases F with
  | false =>
    go_wp2_with (fail)
    go_ret
    exact ⟨ret_int (by rw [← HR3.out]; simp), y⟩
  | true =>
    have HR4 : Hid ((if placeP l x = false then 7 else if most < longO lim x then 8 else 0) = R) := Lib.hid (by rw [← HR3.out, if_neg (show ¬ (true = false) by simp)])
    clear HR3
    go_wp2_with (go_at_call 181; refine Hid.out ?_)
    refine Lib.hid ?_
    refine (inPlace_any sc l A n c x _ N.out (h.ext y) hb (hS.ext y) ho).mono ?_
    rintro e w4 ⟨rfl, y1⟩
    replace y := ext_trans y y1
    clear y1
    generalize placeP l x = G at HR4 ⊢
    cases G with
    | false =>
      go_wp2_with (fail)
      go_ret
      exact ⟨ret_int (by rw [← HR4.out]; simp), y⟩
    | true =>
      have HR5 : Hid ((if most < longO lim x then 8 else 0) = R) := Lib.hid (by rw [← HR4.out, if_neg (show ¬ (true = false) by simp)])
      clear HR4
      go_wp2_with (go_at_call 104; refine Hid.out ?_)
      refine Lib.hid ?_
      refine (takes_any A n c x _ N.out (h.ext y).1 hb).mono ?_
      rintro e w5 ⟨rfl, y1⟩
      replace y := ext_trans y y1
      clear y1
      rw [HTK.out]
      obtain ⟨D, hD⟩ : ∃ D, IntKind.i64.wrap (lim - T) = D := ⟨_, rfl⟩
      go_wp2_with (go_at_call 105; refine Hid.out ?_)
      refine Lib.hid ?_
      refine (makes_any A n c x _ N.out (h.ext y).1 hb).mono ?_
      rintro e w6 ⟨rfl, y1⟩
      replace y := ext_trans y y1
      clear y1
      obtain ⟨U, hU⟩ : ∃ X, makesP x = X := ⟨_, rfl⟩
      rw [hU]
      obtain ⟨G, hG⟩ : ∃ G, IntKind.i64.wrap (D + U) = G := ⟨_, rfl⟩
      have HLO : Hid (longO lim x = G) := Lib.hid (by unfold longO; rw [HTK.out, hD, hU, hG])
      clear hU
      by_cases h5 : most < G
      · go_wp2_with (fail)
        go_ret
        exact ⟨ret_int (by rw [← HR5.out, HLO.out, if_pos h5]), y⟩
      · go_wp2_with (fail)
        go_ret
        exact ⟨ret_int (by rw [← HR5.out, HLO.out, if_neg (show ¬ most < G by omega)]), y⟩
end Go.Proofs.YtbdkbfoplpociaaGreatDoor
namespace Go.Proofs.YtbdkbfoplpociaaGreatDoor
open Go.RowKit
set_option linter.unusedVariables false
set_option linter.unusedSimpArgs false

def goodO (l : List Ky) (x : List OpS) : Prop := ∀ o ∈ x, oneP l o.o = 0
theorem goodO.tail {l : List Ky} {o : OpS} {x : List OpS} (h : goodO l (o :: x)) : goodO l x := fun z hz => h z (List.mem_cons_of_mem _ hz)
theorem fold_one {l : List Ky} : ∀ (x : List OpS) (a : Int), (x.foldl (mayStep l) (false, a)).1 = false → (x.foldl (mayStep l) (false, a)).2 = 0 → a = 0 ∧ goodO l x
  | [], a, _, h => ⟨h, fun z hz => by cases hz⟩
  | o :: x, a, h1, h2 => by
    rw [List.foldl_cons] at h1 h2
    unfold mayStep at h1 h2
    simp only [Bool.false_eq_true, if_false] at h1 h2
    by_cases h3 : oneP l o.o = 3
    · rw [if_pos h3] at h1
      have := mayStep_true l 3 x
      unfold mayStep at this
      rw [this] at h1; cases h1
    · rw [if_neg h3] at h1 h2
      obtain ⟨h4, h5⟩ := fold_one x _ h1 h2
      by_cases h0 : oneP l o.o = 0
      · rw [if_pos h0] at h4
        refine ⟨h4, fun z hz => ?_⟩
        rcases List.mem_cons.1 hz with rfl | hz
        · exact h0
        · exact h5 z hz
      · rw [if_neg h0] at h4; exact absurd h4 h0
theorem one_fold {l : List Ky} : ∀ (x : List OpS), goodO l x → x.foldl (mayStep l) (false, 0) = (false, 0)
  | [], _ => rfl
  | o :: x, h => by
    rw [List.foldl_cons]
    have h0 := h o (by simp)
    have : mayStep l (false, 0) o = (false, 0) := by unfold mayStep; simp [h0]
    rw [this]
    exact one_fold x h.tail
theorem mayO_zero {l : List Ky} {x : List OpS} (h : mayO l x = 0) : goodO l x ∧ takesP x ≤ 536870912 ∧ makesP x ≤ 536870912 := by
  unfold mayO at h
  cases h1 : (x.foldl (mayStep l) (false, 0)).1 with
  | true => rw [h1] at h; simp at h
  | false =>
    rw [h1] at h
    simp only [Bool.false_eq_true, if_false] at h
    by_cases h2 : takesP x ≤ 536870912 ∧ makesP x ≤ 536870912
    · rw [if_pos h2] at h; exact ⟨(fold_one x 0 h1 h).2, h2⟩
    · rw [if_neg h2] at h; cases h
theorem zero_mayO {l : List Ky} {x : List OpS} (h : goodO l x) (h1 : takesP x ≤ 536870912) (h2 : makesP x ≤ 536870912) : mayO l x = 0 := by
  unfold mayO
  rw [one_fold x h]
  simp [h1, h2]

def tkI (o : Opd) : Int := if o.k = 2 then 0 else o.n
def mkI (o : Opd) : Int := if o.k = 3 then 0 else sizeO o
def sumT : List OpS → Int
  | [] => 0
  | o :: x => tkI o.o + sumT x
def sumM : List OpS → Int
  | [] => 0
  | o :: x => mkI o.o + sumM x
theorem one_facts {l : List Ky} {o : Opd} (h : oneP l o = 0) : formO o = true ∧ 1 ≤ sizeO o ∧ sizeO o ≤ 536870912 ∧ mayS l o.s = 0 ∧ mayP l o.p = 0 := by
  unfold oneP at h
  by_cases h1 : formO o = true ∧ 1 ≤ sizeO o ∧ sizeO o ≤ 536870912
  · rw [if_pos h1] at h
    by_cases h2 : mayS l o.s = 0
    · rw [if_pos h2] at h; exact ⟨h1.1, h1.2.1, h1.2.2, h2, h⟩
    · rw [if_neg h2] at h; exact absurd h h2
  · rw [if_neg h1] at h; cases h
theorem form_kinds {o : Opd} (h : formO o = true) : o.k = 1 ∨ o.k = 2 ∨ o.k = 3 := by
  unfold formO at h
  by_cases h1 : o.k = 1
  · exact .inl h1
  rw [if_neg h1] at h
  by_cases h3 : o.k = 3
  · exact .inr (.inr h3)
  rw [if_neg h3] at h
  by_cases h2 : o.k = 2
  · exact .inr (.inl h2)
  rw [if_neg h2] at h; cases h
theorem one_ks {l : List Ky} {o : Opd} (h : oneP l o = 0) : (o.k = 2 ∧ tkI o = 0 ∧ 1 ≤ mkI o ∧ mkI o ≤ 536870912) ∨ (o.k = 3 ∧ tkI o = o.n ∧ 1 ≤ o.n ∧ o.n ≤ 536870912 ∧ mkI o = 0) ∨ (o.k = 1 ∧ tkI o = o.n ∧ 1 ≤ o.n ∧ o.n ≤ 536870912 ∧ mkI o = o.n) := by
  obtain ⟨f, h1, h2, _, _⟩ := one_facts h
  unfold tkI mkI
  unfold sizeO at *
  rcases form_kinds f with hk | hk | hk <;> rw [hk] at h1 h2 ⊢ <;> simp at h1 h2 ⊢ <;> omega
theorem sums {l : List Ky} : ∀ (x : List OpS), goodO l x → 0 ≤ sumT x ∧ sumT x ≤ 536870912 * (x.length : Int) ∧ 0 ≤ sumM x ∧ sumM x ≤ 536870912 * (x.length : Int)
  | [], _ => by simp [sumT, sumM]
  | o :: x, h => by
    obtain ⟨a, b, c, d⟩ := sums x h.tail
    have := one_ks (h o (by simp))
    simp only [sumT, sumM, List.length_cons]
    push_cast
    omega
theorem fold_t {l : List Ky} : ∀ (x : List OpS) (a : Int), goodO l x → 0 ≤ a → a + 536870912 * (x.length : Int) ≤ 4611686018427387904 → x.foldl takeStep a = a + sumT x
  | [], a, _, _, _ => by simp [sumT]
  | o :: x, a, h, h0, hb => by
    have hk := one_ks (h o (by simp))
    simp only [List.length_cons] at hb
    push_cast at hb
    have e : takeStep a o = a + tkI o.o := by
      unfold takeStep
      by_cases h2 : o.o.k = 2
      · rw [if_pos h2]; unfold tkI; rw [if_pos h2]; omega
      · rw [if_neg h2]; unfold tkI; rw [if_neg h2]; exact IntWalk.i64_in _ (by omega)
    rw [List.foldl_cons, e, fold_t x _ h.tail (by omega) (by omega)]
    simp only [sumT]; omega
theorem fold_m {l : List Ky} : ∀ (x : List OpS) (a : Int), goodO l x → 0 ≤ a → a + 536870912 * (x.length : Int) ≤ 4611686018427387904 → x.foldl makeStep a = a + sumM x
  | [], a, _, _, _ => by simp [sumM]
  | o :: x, a, h, h0, hb => by
    have hk := one_ks (h o (by simp))
    have hs := (one_facts (h o (by simp))).2
    simp only [List.length_cons] at hb
    push_cast at hb
    have e : makeStep a o = a + mkI o.o := by
      unfold makeStep
      by_cases h2 : o.o.k = 3
      · rw [if_pos h2]; unfold mkI; rw [if_pos h2]; omega
      · rw [if_neg h2]; unfold mkI; rw [if_neg h2]; exact IntWalk.i64_in _ (by omega)
    rw [List.foldl_cons, e, fold_m x _ h.tail (by omega) (by omega)]
    simp only [sumM]; omega
theorem takes_sum {l : List Ky} {x : List OpS} (h : goodO l x) (hb : x.length ≤ 1048576) : takesP x = sumT x := by
  unfold takesP; rw [fold_t x 0 h (by omega) (by omega)]; omega
theorem makes_sum {l : List Ky} {x : List OpS} (h : goodO l x) (hb : x.length ≤ 1048576) : makesP x = sumM x := by
  unfold makesP; rw [fold_m x 0 h (by omega) (by omega)]; omega

def finR (n : Int) : Int → List OpS → Bool
  | _, [] => true
  | a, o :: x => if o.o.k = 2 then (decide (¬ a = n) && finR n a x) else if o.o.k = 3 ∧ a + o.o.n = n then false else finR n (a + o.o.n) x
theorem fold_fin {l : List Ky} (n : Int) : ∀ (x : List OpS) (a : Int), goodO l x → 0 ≤ a → a + 536870912 * (x.length : Int) ≤ 4611686018427387904 → (x.foldl (finalStep n) (true, a)).1 = finR n a x
  | [], a, _, _, _ => rfl
  | o :: x, a, h, h0, hb => by
    have hk := one_ks (h o (by simp))
    simp only [List.length_cons] at hb
    push_cast at hb
    rw [List.foldl_cons]
    unfold finalStep finR
    simp only [Bool.true_eq_false, if_false]
    by_cases h2 : o.o.k = 2
    · rw [if_pos h2, if_pos h2]
      by_cases ha : a = n
      · have := final_false n a x
        unfold finalStep at this
        simp only [ha] at this ⊢
        simp only [not_true_eq_false, decide_false, Bool.false_and]
        rw [this]
      · simp only [ha, not_false_eq_true, decide_true, Bool.true_and]
        exact fold_fin n x a h.tail h0 (by omega)
    · have e : IntKind.i64.wrap (a + o.o.n) = a + o.o.n := IntWalk.i64_in _ (by omega)
      rw [if_neg h2, if_neg h2, e]
      by_cases h3 : o.o.k = 3 ∧ a + o.o.n = n
      · rw [if_pos h3, if_pos h3]
        have := final_false n a x
        unfold finalStep at this
        rw [this]
      · rw [if_neg h3, if_neg h3]
        exact fold_fin n x _ h.tail (by omega) (by omega)
theorem final_r {l : List Ky} {x : List OpS} (n : Int) (h : goodO l x) (hb : x.length ≤ 1048576) : finalP n x = finR n 0 x := by
  unfold finalP; exact fold_fin n x 0 h (by omega) (by omega)
theorem longO_is {l : List Ky} {x : List OpS} {n : Int} (h : goodO l x) (hb : x.length ≤ 1048576) (h0 : 0 ≤ n) (h1 : n ≤ 4294967296) (ht : takesP x ≤ 536870912) (hm : makesP x ≤ 536870912) : longO n x = n - sumT x + sumM x := by
  have hs := sums x h
  have et := takes_sum h hb
  have em := makes_sum h hb
  unfold longO
  rw [et] at ht ⊢
  rw [em] at hm ⊢
  rw [IntWalk.i64_in (n - sumT x) (by omega), IntWalk.i64_in _ (by omega)]

/-- why a delta fits -/
theorem fits_zero {l : List Ky} {x : List OpS} {n most : Int} (h : fitsO l x n most = 0) : mayO l x = 0 ∧ 1 ≤ n ∧ n ≤ most ∧ takesP x ≤ n ∧ finalP n x = true ∧ placeP l x = true ∧ longO n x ≤ most := by
  unfold fitsO at h
  by_cases h1 : ¬ mayO l x = 0
  · rw [if_pos h1] at h; exact absurd h h1
  rw [if_neg h1] at h
  by_cases h2 : n < 1 ∨ most < n ∨ n < takesP x
  · rw [if_pos h2] at h; cases h
  rw [if_neg h2] at h
  by_cases h3 : finalP n x = false
  · rw [if_pos h3] at h; cases h
  rw [if_neg h3] at h
  by_cases h4 : placeP l x = false
  · rw [if_pos h4] at h; cases h
  rw [if_neg h4] at h
  by_cases h5 : most < longO n x
  · rw [if_pos h5] at h; cases h
  exact ⟨by omega, by omega, by omega, by omega, by simpa using h3, by simpa using h4, by omega⟩
theorem zero_fits {l : List Ky} {x : List OpS} {n most : Int} (h1 : mayO l x = 0) (h2 : 1 ≤ n) (h3 : n ≤ most) (h4 : takesP x ≤ n) (h5 : finalP n x = true) (h6 : placeP l x = true) (h7 : longO n x ≤ most) : fitsO l x n most = 0 := by
  unfold fitsO
  rw [if_neg (by simp [h1]), if_neg (by omega), if_neg (by simp [h5]), if_neg (by simp [h6]), if_neg (by omega)]

end Go.Proofs.YtbdkbfoplpociaaGreatDoor
