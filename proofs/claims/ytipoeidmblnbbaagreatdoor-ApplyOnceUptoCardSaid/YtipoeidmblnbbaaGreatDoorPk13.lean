/- Merged texts: PartA, OpPlace, OpFits, OpLaw. -/
import Derived.Test.YtipoeidmblnbbaaGreatDoorPk12
import Derived.Test.YtipoeidmblnbbaaGreatDoorPk9
import Derived.Test.YtipoeidmblnbbaaGreatDoorPk11
import Derived.Test.YtipoeidmblnbbaaGreatDoorPk3
import Derived.Deep.RegionHeld3
/- The walks of attrs.Part and of the document's Part of a set. -/
namespace Go.Proofs.YtipoeidmblnbbaaGreatDoor
open Go.RowKit
set_option linter.unusedVariables false
set_option linter.unusedSimpArgs false

set_option maxHeartbeats 1600000 in
theorem partClA_any (s b1 b2 : Nat) (l : List Ky) (b : Bool) (x1 x2 x3 x4 : Int) (x5 : ByteArray) (w : World) (hS : Sch w s l)
    (h1 : w.heap[b1]? = some (.cells #[.pointer (some ⟨s, 0, none⟩)] 26 (0, 0))) (h2 : w.heap[b2]? = some (.cells #[.bool b] 4 (0, 0))) :
    Calls Tryz.prog 85 #[.agg #[.int .i64 x1, .int .u8 x2, .int .i64 x3, .int .u64 x4, .string x5], .pointer (some ⟨b1, 0, none⟩), .pointer (some ⟨b2, 0, none⟩)] w fun e w' => e = .returned (.bool (!keepK l b x1)) ∧ Below w.heap.size w w' := by
  have y0 := ext_alloc w (.cells #[.int .i64 x1, .int .u8 x2, .int .i64 x3, .int .u64 x4, .string x5] 70)
  have c1 := box_1 ((y0.block b1 (lt_of_some h1)).trans h1)
  have g2 := (y0.block b2 (lt_of_some h2)).trans h2
  have HS := Lib.hid (hS.ext y0)
  have G2 := Lib.hid g2
  clear g2 hS
  go_enter Tryz.func85, Tryz.ntmps85
  go_wp2_with (go_at_call 86; refine Hid.out ?_)
  refine Lib.hid ?_
  generalize hw0 : w.alloc _ = w0 at *
  clear hw0
  refine (findS_any s l x1 w0 HS.out).mono ?_
  rintro e w1 ⟨i, c, kd, d, g, q, ok, rfl, hk, hb, y1⟩
  have y2 := ext_alloc w1 (.cells #[.int .i64 i, .bool c, .int .u8 kd, .bool d, .bool g, .int .i64 q] 74)
  have g3 := (y1.block b2 (lt_of_some G2.out)).trans G2.out
  have c2 := box_1 ((y2.block b2 (lt_of_some g3)).trans g3)
  have yy := ext_trans y0 (ext_trans y1 y2)
  have HB := Lib.hid hb
  have HK := Lib.hid hk
  clear g3 hk hb
  cases ok with
  | false =>
    have HE : Hid (keepK l b x1 = false) := Lib.hid (by
      have h := HB.out
      unfold keepK
      cases hq : findK l x1 with
      | none => rfl
      | some k => rw [hq] at h; cases h)
    go_wp2_with (fail)
    go_ret
    exact ⟨ret_bool (by rw [HE.out]; rfl), yy⟩
  | true =>
    have HE : Hid (keepK l b x1 = (c == b)) := Lib.hid (by
      have h := HB.out
      have h2 := HK.out
      unfold keepK
      cases hq : findK l x1 with
      | none => rw [hq] at h; cases h
      | some k => rw [hq] at h2; simp at h2; subst h2; rfl)
    go_wp2_with (fail)
    go_ret
    exact ⟨ret_bool (by rw [HE.out] <;> (cases c <;> cases b <;> rfl)), yy⟩

set_option maxRecDepth 100000 in
set_option maxHeartbeats 1600000 in
theorem partA_any (s : Nat) (l : List Ky) (b : Bool) (A : Option Addr) (n c : Nat) (p : List At) (w : World) (hn : n = p.length) (h : RdAt w w.heap.size A p) (hb : n ≤ 100000000) (hS : Sch w s l) :
    Calls Tryz.prog 47 #[.pointer (some ⟨s, 0, none⟩), .slice A n c, .bool b] w (NewAt (partS l b p) w) := by
  have N := Lib.hid hn
  have ya := ext_alloc w (.cells #[.pointer (some ⟨s, 0, none⟩)] 26)
  have yb := ext_alloc (w.alloc (.cells #[.pointer (some ⟨s, 0, none⟩)] 26)) (.cells #[.bool b] 4)
  have g1 := heap_alloc_new w (.cells #[.pointer (some ⟨s, 0, none⟩)] 26)
  have g2 := heap_alloc_new (w.alloc (.cells #[.pointer (some ⟨s, 0, none⟩)] 26)) (.cells #[.bool b] 4)
  have G1 := Lib.hid ((yb.block w.heap.size (by simp)).trans g1)
  rw [World.size_alloc] at g2
  have G2 := Lib.hid g2
  have y := ext_trans ya yb
  have hh := h.ext y
  have HS := Lib.hid (hS.ext y)
  clear hn g1 g2 ya yb h hS
  go_enter Tryz.func47, Tryz.ntmps47
  go_wp2_with (go_at_call 84; refine Hid.out ?_)
  refine Lib.hid ?_
  refine (cloneAt_any A n c p _ N.out hh hb).mono ?_
  rintro e w1 ⟨A', c', rfl, hown, y1⟩
  have HOW := Lib.hid hown
  have hsz2 : ((w.alloc (.cells #[.pointer (some ⟨s, 0, none⟩)] 26)).alloc (.cells #[.bool b] 4)).heap.size = w.heap.size + 2 := by simp
  have G1' := Lib.hid ((y1.block w.heap.size (by rw [hsz2]; omega)).trans G1.out)
  have G2' := Lib.hid ((y1.block (w.heap.size + 1) (by rw [hsz2]; omega)).trans G2.out)
  have hb1 : w.heap.size + 2 ≤ w1.heap.size := by have := y1.size; omega
  have HSZ := Lib.hid hsz2
  clear hown hsz2
  go_wp2_with (go_at_call 83; refine Hid.out ?_)
  refine Lib.hid ?_
  refine (deletePartA_any w.heap.size (w.heap.size + 1) (fun c => !keepK l b c.key) A' p.length c' _ p w1 HOW.out (by rw [HSZ.out]; exact hb1) (by have := N.out; omega) rfl ?cl).mono ?_
  case cl =>
    intro x1 x2 x3 x4 x5 w' hb'
    refine partClA_any s _ _ l b x1 x2 x3 x4 x5 w' (HS.out.ext (y1.trans hb')) ?_ ?_
    · exact (hb'.block _ (by rw [HSZ.out]; omega)).trans G1'.out
    · exact (hb'.block _ (by rw [HSZ.out]; omega)).trans G2'.out
  rintro e w2 ⟨A2, c2, rfl, hown2, y2⟩
  have yy : Below w.heap.size w w2 := ext_trans y (y1.trans y2)
  have hf : p.filter (fun x => !!keepK l b x.key) = partS l b p := by simp [partS]
  rw [hf] at hown2 ⊢
  have HO2 := Lib.hid (hown2.base_le (B := w.heap.size) (by rw [HSZ.out]; omega))
  clear hown2 hf
  go_wp2_with (fail)
  go_ret
  exact ⟨A2, c2, rfl, HO2.out, yy⟩
end Go.Proofs.YtipoeidmblnbbaaGreatDoor
/- The walk of ops.InPlace. -/
namespace Go.Proofs.YtipoeidmblnbbaaGreatDoor
open Go.RowKit
set_option linter.unusedVariables false
set_option linter.unusedSimpArgs false

/-- is an op's insert in place? -/
def placeO (l : List Ky) (o : Opd) : Bool :=
  if o.k = 2 ∧ 0 < o.s.length then
    !((decide (0 < (partS l true o.s).length) || decide (0 < nlR o.r)) && (decide ((partS l true o.s).length < o.s.length) || decide (nlR o.r < o.r.length)))
  else true
def placeP (l : List Ky) (x : List OpS) : Bool := x.all (fun o => placeO l o.o)
theorem place_drop {l : List Ky} {x : List OpS} {m : Nat} {o : OpS} {R : Bool} (hd : x.drop m = o :: x.drop (m + 1)) (h : placeP l (x.drop m) = R) : (placeO l o.o && placeP l (x.drop (m + 1))) = R := by
  rw [hd] at h; exact h
set_option maxRecDepth 100000 in
set_option maxHeartbeats 3200000 in
theorem inPlace_any (sc : Nat) (l : List Ky) (A : Option Addr) (n c : Nat) (x : List OpS) (w : World) (hn : n = x.length) (h : RdOp w w.heap.size A x) (hb : n ≤ 140737488355328) (hS : Sch w sc l) (ho : ∀ o ∈ x, okOp o.o) :
    Calls Tryz.prog 91 #[.pointer (some ⟨sc, 0, none⟩), .slice A n c] w fun e w' => e = .returned (.bool (placeP l x)) ∧ Below w.heap.size w w' := by
  have N := Lib.hid hn
  generalize hR : placeP l x = R
  have HR := Lib.hid hR
  clear hn hR
  go_enter Tryz.func91, Tryz.ntmps91
  go_wp2_with (fail)
  go_loopg [11] n (fun g iv wr => ∃ (m : Nat), m ≤ n ∧ g = n - m ∧ iv = .int .i64 (m : Int) ∧ Below w.heap.size w wr ∧ Hid (placeP l (x.drop m) = R))
  case atStart => exact ⟨0, by omega, rfl, rfl, Below.refl _ _, Lib.hid (by rw [List.drop_zero]; exact HR.out)⟩
  case round =>
    obtain ⟨m, hm, hg, rfl, y, HI⟩ := hrel
    have HG := Lib.hid hg
    clear hg HR
    by_cases hlt : m < n
    · have hl1 : m < x.length := by have := N.out; omega
      obtain ⟨ad, o, had0, had, hd1, hx1, hc0⟩ := (h.1.below y (Nat.le_refl _)).el hl1
      subst had0
      have hmem := List.mem_of_getElem? hx1
      obtain ⟨q1, q2, q3, q4, q5⟩ := ho o hmem
      obtain ⟨g1, g2, g3⟩ := h.2 o hmem
      have HI2 := Lib.hid (place_drop hd1 HI.out)
      obtain ⟨⟨k, nn, r, s, p⟩, Ar, cr, As, cs, Ap, cp⟩ := o
      obtain ⟨r0, r1, r2, r3, r4⟩ := op_cells hc0
      simp only at g1 g2 g3 q3 q4 q5
      have y2 := ext_trans y (ext_alloc wr (.cells #[.int .u8 k, .int .i64 nn, .slice Ar r.length cr, .slice As s.length cs, .slice Ap p.length cp] 46))
      have hbx := heap_alloc_new wr (.cells #[.int .u8 k, .int .i64 nn, .slice Ar r.length cr, .slice As s.length cs, .slice Ap p.length cp] 46)
      have hw2 : IntKind.i64.wrap ((m:Int) + 1) = (m : Int) + 1 := IntWalk.i64_in _ (by omega)
      have HBX := Lib.hid hbx
      clear hc0 hd1 hx1 hmem HI hbx
      by_cases hk : k = 2
      · subst hk
        by_cases hs : s.length = 0
        · have hs0 : ((s.length : Int) == 0) = true := by rw [hs]; rfl
          have HP : Hid (placeO l ⟨2, nn, r, s, p⟩ = true) := Lib.hid (by unfold placeO; rw [if_neg (by simp only; omega)])
          clear hs
          go_wp2_with (fail)
          go_roundg (n - (m + 1))
          case measure => have := HG.out; omega
          case rel => exact ⟨m + 1, by omega, rfl, by go_num, y2, Lib.hid (by rw [← HI2.out, HP.out, Bool.true_and])⟩
        · have hs0 : ((s.length : Int) == 0) = false := beq_eq_false_iff_ne.2 (fun e => hs (by omega))
          obtain ⟨ns, hns⟩ : ∃ X, s.length = X := ⟨_, rfl⟩
          obtain ⟨nr, hnr⟩ : ∃ X, r.length = X := ⟨_, rfl⟩
          obtain ⟨np, hnp⟩ : ∃ X, p.length = X := ⟨_, rfl⟩
          have NS := Lib.hid hns
          have NR := Lib.hid hnr
          rw [hns] at r3 hs hs0 q4
          rw [hnr] at r2 q3
          rw [hnp] at r4
          rw [hns, hnr, hnp] at y2
          have HBX2 := HBX.out
          rw [hns, hnr, hnp] at HBX2
          have HBX := Lib.hid HBX2
          clear hns hnr hnp HBX2
          go_wp2_with (fail)
          obtain ⟨B, hB⟩ : ∃ X, wr.heap.size = X := ⟨_, rfl⟩
          rw [hB] at HBX ⊢
          generalize wr.alloc (.cells #[.int .u8 2, .int .i64 nn, .slice Ar nr cr, .slice As ns cs, .slice Ap np cp] 46) = w5 at *
          have hS5 := hS.ext y2
          have ha5 := g2.ext y2
          have hr5 := g1.ext y2
          obtain ⟨c0, c1, c2, c3, c4⟩ := box_at HBX.out
          have hBl := lt_of_some HBX.out
          have yd : Below w5.heap.size w5 w5.drew := (Below.refl _ _).drew
          have hS6 := hS5.ext yd
          have ha6 := ha5.ext yd
          have hr6 := hr5.ext yd
          have HBX6 := Lib.hid ((yd.block B hBl).trans HBX.out)
          have hBl6 := lt_of_some HBX6.out
          clear r0 r1 r2 r3 r4 c0 c1 c4
          go_region_held3 (fun w' => w'.cell? ⟨B, 2, none⟩ = some (.slice Ar nr cr) ∧ w'.cell? ⟨B, 3, none⟩ = some (.slice As ns cs))
            (go_keep) (first
              | (go_at_call 47
                 with_reducible refine (partA_any sc l true As ns cs s w5.drew NS.out.symm ha6 q4 hS6).mono ?_
                 rintro e w6 ⟨A2, c2', rfl, ho2, y6⟩
                 obtain ⟨f0, f1, f2, f3, f4⟩ := box_at ((y6.block B hBl6).trans HBX6.out))
              | (go_at_call 131
                 with_reducible refine (newlines_any Ar nr cr r w5.drew NR.out.symm hr6 (by omega)).mono ?_
                 rintro e w6 ⟨rfl, rfl⟩)
              | (go_at_call 131
                 with_reducible refine (newlines_any Ar nr cr r w6 NR.out.symm (hr6.ext y6) (by omega)).mono ?_
                 rintro e w7 ⟨rfl, rfl⟩))
          all_goals
            have yy := ext_trans y2 (ext_trans yd y6)
            have HV : Hid (placeO l ⟨2, nn, r, s, p⟩ = !((decide (0 < (partS l true s).length) || decide (0 < nlR r)) && (decide ((partS l true s).length < ns) || decide (nlR r < nr)))) := Lib.hid (by
              unfold placeO
              rw [if_pos (show (2 : Int) = 2 ∧ 0 < s.length from ⟨rfl, by have := NS.out; omega⟩)]
              simp only [NS.out, NR.out])
            generalize (partS l true s).length = nb at *
            generalize nlR r = nl at *
            clear ho2 f0 f1 f4
            by_cases t1 : (0 : Int) < (nb : Int)
            · have t1' : 0 < nb := by omega
              by_cases t3 : (nb : Int) < (ns : Int)
              · have t3' : nb < ns := by omega
                go_wp2_with (fail)
                go_ret
                exact ⟨ret_bool (by rw [← HI2.out, HV.out]; simp [t1', t3']), yy⟩
              by_cases t4 : (nl : Int) < (nr : Int)
              · have t4' : nl < nr := by omega
                go_wp2_with (fail)
                go_ret
                exact ⟨ret_bool (by rw [← HI2.out, HV.out]; simp [t1', t4']), yy⟩
              have t3' : ¬ nb < ns := by omega
              have t4' : ¬ nl < nr := by omega
              go_wp2_with (fail)
              go_roundg (n - (m + 1))
              case measure => have := HG.out; omega
              case rel => exact ⟨m + 1, by omega, rfl, by go_num, yy, Lib.hid (by rw [← HI2.out, HV.out]; simp [t3', t4'])⟩
            by_cases t2 : (0 : Int) < (nl : Int)
            · have t2' : 0 < nl := by omega
              have t3 : (nb : Int) < (ns : Int) := by omega
              have t3' : nb < ns := by omega
              go_wp2_with (fail)
              go_ret
              exact ⟨ret_bool (by rw [← HI2.out, HV.out]; simp [t2', t3']), yy⟩
            have t1' : nb = 0 := by omega
            have t2' : nl = 0 := by omega
            go_wp2_with (fail)
            go_roundg (n - (m + 1))
            case measure => have := HG.out; omega
            case rel => exact ⟨m + 1, by omega, rfl, by go_num, yy, Lib.hid (by rw [← HI2.out, HV.out]; simp [t1', t2'])⟩
      · have hb2 : (k == 2) = false := beq_eq_false_iff_ne.2 hk
        have HP : Hid (placeO l ⟨k, nn, r, s, p⟩ = true) := Lib.hid (by unfold placeO; rw [if_neg (by simp only; omega)])
        clear hk
        go_wp2_with (fail)
        go_roundg (n - (m + 1))
        case measure => have := HG.out; omega
        case rel => exact ⟨m + 1, by omega, rfl, by go_num, y2, Lib.hid (by rw [← HI2.out, HP.out, Bool.true_and])⟩
    · go_wp2_with (fail)
      go_ret
      refine ⟨ret_bool ?_, y⟩
      rw [← HI.out, List.drop_eq_nil_of_le (by have := N.out; omega)]
      rfl
end Go.Proofs.YtipoeidmblnbbaaGreatDoor
/- The walk of ops.Fits. -/
namespace Go.Proofs.YtipoeidmblnbbaaGreatDoor
open Go.RowKit
set_option linter.unusedVariables false
set_option linter.unusedSimpArgs false

/-- as long as told behind a delta -/
def longO (n : Int) (x : List OpS) : Int := IntKind.i64.wrap (IntKind.i64.wrap (n - takesP x) + makesP x)
/-- why a delta does not fit a document of n cells -/
def fitsO (l : List Ky) (x : List OpS) (n most : Int) : Int :=
  if ¬ mayO l x = 0 then mayO l x
  else if n < 1 ∨ most < n ∨ n < takesP x then 5
  else if finalP n x = false then 6
  else if placeP l x = false then 7
  else if most < longO n x then 8 else 0

set_option maxRecDepth 100000 in
set_option maxHeartbeats 1600000 in
theorem fitsO_any (sc : Nat) (l : List Ky) (A : Option Addr) (n c : Nat) (x : List OpS) (lim most : Int) (w : World) (hn : n = x.length) (h : RdOp w w.heap.size A x) (hb : n ≤ 140737488355328) (hS : Sch w sc l) (ho : ∀ o ∈ x, okOp o.o) (hT : Lib.Utf8Tabs 1 2 w) :
    Calls Tryz.prog 49 #[.pointer (some ⟨sc, 0, none⟩), .slice A n c, .int .i64 lim, .int .i64 most] w fun e w' => e = .returned (.int .i64 (fitsO l x lim most)) ∧ Below w.heap.size w w' := by
  have N := Lib.hid hn
  obtain ⟨R, hR⟩ : ∃ X, fitsO l x lim most = X := ⟨_, rfl⟩
  rw [hR]
  unfold fitsO at hR
  have HR := Lib.hid hR
  clear hn hR
  have y := Below.refl w.heap.size w
  go_enter Tryz.func49, Tryz.ntmps49
  go_wp2_with (go_at_call 48; refine Hid.out ?_)
  refine Lib.hid ?_
  refine (mayO_any sc l A n c x w N.out h hb hS ho hT).mono ?_
  rintro e w1 ⟨rfl, y1⟩
  replace y := ext_trans y y1
  clear y1
  generalize mayO l x = E at HR ⊢
  by_cases hE : E = 0
  rotate_left
  · have hne : (E == 0) = false := beq_eq_false_iff_ne.2 hE
    have HE : Hid (E = R) := Lib.hid (by rw [← HR.out, if_pos hE])
    clear hE
    go_wp2_with (fail)
    go_ret
    exact ⟨ret_int HE.out, y⟩
  subst hE
  have HR2 : Hid ((if lim < 1 ∨ most < lim ∨ lim < takesP x then 5 else if finalP lim x = false then 6 else if placeP l x = false then 7 else if most < longO lim x then 8 else 0) = R) := Lib.hid (by rw [← HR.out, if_neg (show ¬ ¬ ((0 : Int) = 0) by simp)])
  clear HR
  by_cases h1 : lim < 1
  · go_wp2_with (fail)
    go_ret
    exact ⟨ret_int (by rw [← HR2.out, if_pos (.inl h1)]), y⟩
  by_cases h2 : most < lim
  · go_wp2_with (fail)
    go_ret
    exact ⟨ret_int (by rw [← HR2.out, if_pos (.inr (.inl h2))]), y⟩
  go_wp2_with (go_at_call 88; refine Hid.out ?_)
  refine Lib.hid ?_
  refine (takes_any A n c x _ N.out (h.ext y).1 hb).mono ?_
  rintro e w2 ⟨rfl, y1⟩
  replace y := ext_trans y y1
  clear y1
  obtain ⟨T, hT'⟩ : ∃ X, takesP x = X := ⟨_, rfl⟩
  rw [hT'] at HR2 ⊢
  have HTK := Lib.hid hT'
  clear hT'
  by_cases h3 : lim < T
  · go_wp2_with (fail)
    go_ret
    exact ⟨ret_int (by rw [← HR2.out, if_pos (.inr (.inr h3))]), y⟩
  have HR3 : Hid ((if finalP lim x = false then 6 else if placeP l x = false then 7 else if most < longO lim x then 8 else 0) = R) := Lib.hid (by rw [← HR2.out, if_neg (show ¬ (lim < 1 ∨ most < lim ∨ lim < T) by omega)])
  clear HR2
  go_wp2_with (go_at_call 90; refine Hid.out ?_)
  refine Lib.hid ?_
  refine (final_any A n c x lim _ N.out (h.ext y).1 hb).mono ?_
  rintro e w3 ⟨rfl, y1⟩
  replace y := ext_trans y y1
  clear y1
  generalize finalP lim x = F at HR3 ⊢
  cases F with
  | false =>
    go_wp2_with (fail)
    go_ret
    exact ⟨ret_int (by rw [← HR3.out]; simp), y⟩
  | true =>
    have HR4 : Hid ((if placeP l x = false then 7 else if most < longO lim x then 8 else 0) = R) := Lib.hid (by rw [← HR3.out, if_neg (show ¬ (true = false) by simp)])
    clear HR3
    go_wp2_with (go_at_call 91; refine Hid.out ?_)
    refine Lib.hid ?_
    refine (inPlace_any sc l A n c x _ N.out (h.ext y) hb (hS.ext y) ho).mono ?_
    rintro e w4 ⟨rfl, y1⟩
    replace y := ext_trans y y1
    clear y1
    generalize placeP l x = G at HR4 ⊢
    cases G with
    | false =>
      go_wp2_with (fail)
      go_ret
      exact ⟨ret_int (by rw [← HR4.out]; simp), y⟩
    | true =>
      have HR5 : Hid ((if most < longO lim x then 8 else 0) = R) := Lib.hid (by rw [← HR4.out, if_neg (show ¬ (true = false) by simp)])
      clear HR4
      go_wp2_with (go_at_call 88; refine Hid.out ?_)
      refine Lib.hid ?_
      refine (takes_any A n c x _ N.out (h.ext y).1 hb).mono ?_
      rintro e w5 ⟨rfl, y1⟩
      replace y := ext_trans y y1
      clear y1
      rw [HTK.out]
      obtain ⟨D, hD⟩ : ∃ D, IntKind.i64.wrap (lim - T) = D := ⟨_, rfl⟩
      go_wp2_with (go_at_call 89; refine Hid.out ?_)
      refine Lib.hid ?_
      refine (makes_any A n c x _ N.out (h.ext y).1 hb).mono ?_
      rintro e w6 ⟨rfl, y1⟩
      replace y := ext_trans y y1
      clear y1
      obtain ⟨U, hU⟩ : ∃ X, makesP x = X := ⟨_, rfl⟩
      rw [hU]
      obtain ⟨G, hG⟩ : ∃ G, IntKind.i64.wrap (D + U) = G := ⟨_, rfl⟩
      have HLO : Hid (longO lim x = G) := Lib.hid (by unfold longO; rw [HTK.out, hD, hU, hG])
      clear hU
      by_cases h5 : most < G
      · go_wp2_with (fail)
        go_ret
        exact ⟨ret_int (by rw [← HR5.out, HLO.out, if_pos h5]), y⟩
      · go_wp2_with (fail)
        go_ret
        exact ⟨ret_int (by rw [← HR5.out, HLO.out, if_neg (show ¬ most < G by omega)]), y⟩
end Go.Proofs.YtipoeidmblnbbaaGreatDoor
/- Plain laws of deltas: what May, Takes, Makes, final and Fits say of one another. -/
namespace Go.Proofs.YtipoeidmblnbbaaGreatDoor
open Go.RowKit
set_option linter.unusedVariables false
set_option linter.unusedSimpArgs false

def goodO (l : List Ky) (x : List OpS) : Prop := ∀ o ∈ x, oneP l o.o = 0
theorem goodO.tail {l : List Ky} {o : OpS} {x : List OpS} (h : goodO l (o :: x)) : goodO l x := fun z hz => h z (List.mem_cons_of_mem _ hz)
theorem fold_one {l : List Ky} : ∀ (x : List OpS) (a : Int), (x.foldl (mayStep l) (false, a)).1 = false → (x.foldl (mayStep l) (false, a)).2 = 0 → a = 0 ∧ goodO l x
  | [], a, _, h => ⟨h, fun z hz => by cases hz⟩
  | o :: x, a, h1, h2 => by
    rw [List.foldl_cons] at h1 h2
    unfold mayStep at h1 h2
    simp only [Bool.false_eq_true, if_false] at h1 h2
    by_cases h3 : oneP l o.o = 3
    · rw [if_pos h3] at h1
      have := mayStep_true l 3 x
      unfold mayStep at this
      rw [this] at h1; cases h1
    · rw [if_neg h3] at h1 h2
      obtain ⟨h4, h5⟩ := fold_one x _ h1 h2
      by_cases h0 : oneP l o.o = 0
      · rw [if_pos h0] at h4
        refine ⟨h4, fun z hz => ?_⟩
        rcases List.mem_cons.1 hz with rfl | hz
        · exact h0
        · exact h5 z hz
      · rw [if_neg h0] at h4; exact absurd h4 h0
theorem one_fold {l : List Ky} : ∀ (x : List OpS), goodO l x → x.foldl (mayStep l) (false, 0) = (false, 0)
  | [], _ => rfl
  | o :: x, h => by
    rw [List.foldl_cons]
    have h0 := h o (by simp)
    have : mayStep l (false, 0) o = (false, 0) := by unfold mayStep; simp [h0]
    rw [this]
    exact one_fold x h.tail
theorem mayO_zero {l : List Ky} {x : List OpS} (h : mayO l x = 0) : goodO l x ∧ takesP x ≤ 536870912 ∧ makesP x ≤ 536870912 := by
  unfold mayO at h
  cases h1 : (x.foldl (mayStep l) (false, 0)).1 with
  | true => rw [h1] at h; simp at h
  | false =>
    rw [h1] at h
    simp only [Bool.false_eq_true, if_false] at h
    by_cases h2 : takesP x ≤ 536870912 ∧ makesP x ≤ 536870912
    · rw [if_pos h2] at h; exact ⟨(fold_one x 0 h1 h).2, h2⟩
    · rw [if_neg h2] at h; cases h
theorem zero_mayO {l : List Ky} {x : List OpS} (h : goodO l x) (h1 : takesP x ≤ 536870912) (h2 : makesP x ≤ 536870912) : mayO l x = 0 := by
  unfold mayO
  rw [one_fold x h]
  simp [h1, h2]

def tkI (o : Opd) : Int := if o.k = 2 then 0 else o.n
def mkI (o : Opd) : Int := if o.k = 3 then 0 else sizeO o
def sumT : List OpS → Int
  | [] => 0
  | o :: x => tkI o.o + sumT x
def sumM : List OpS → Int
  | [] => 0
  | o :: x => mkI o.o + sumM x
theorem one_facts {l : List Ky} {o : Opd} (h : oneP l o = 0) : formO o = true ∧ 1 ≤ sizeO o ∧ sizeO o ≤ 536870912 ∧ mayS l o.s = 0 ∧ mayP l o.p = 0 := by
  unfold oneP at h
  by_cases h1 : formO o = true ∧ 1 ≤ sizeO o ∧ sizeO o ≤ 536870912
  · rw [if_pos h1] at h
    by_cases h2 : mayS l o.s = 0
    · rw [if_pos h2] at h; exact ⟨h1.1, h1.2.1, h1.2.2, h2, h⟩
    · rw [if_neg h2] at h; exact absurd h h2
  · rw [if_neg h1] at h; cases h
theorem form_kinds {o : Opd} (h : formO o = true) : o.k = 1 ∨ o.k = 2 ∨ o.k = 3 := by
  unfold formO at h
  by_cases h1 : o.k = 1
  · exact .inl h1
  rw [if_neg h1] at h
  by_cases h3 : o.k = 3
  · exact .inr (.inr h3)
  rw [if_neg h3] at h
  by_cases h2 : o.k = 2
  · exact .inr (.inl h2)
  rw [if_neg h2] at h; cases h
theorem one_ks {l : List Ky} {o : Opd} (h : oneP l o = 0) : (o.k = 2 ∧ tkI o = 0 ∧ 1 ≤ mkI o ∧ mkI o ≤ 536870912) ∨ (o.k = 3 ∧ tkI o = o.n ∧ 1 ≤ o.n ∧ o.n ≤ 536870912 ∧ mkI o = 0) ∨ (o.k = 1 ∧ tkI o = o.n ∧ 1 ≤ o.n ∧ o.n ≤ 536870912 ∧ mkI o = o.n) := by
  obtain ⟨f, h1, h2, _, _⟩ := one_facts h
  unfold tkI mkI
  unfold sizeO at *
  rcases form_kinds f with hk | hk | hk <;> rw [hk] at h1 h2 ⊢ <;> simp at h1 h2 ⊢ <;> omega
theorem sums {l : List Ky} : ∀ (x : List OpS), goodO l x → 0 ≤ sumT x ∧ sumT x ≤ 536870912 * (x.length : Int) ∧ 0 ≤ sumM x ∧ sumM x ≤ 536870912 * (x.length : Int)
  | [], _ => by simp [sumT, sumM]
  | o :: x, h => by
    obtain ⟨a, b, c, d⟩ := sums x h.tail
    have := one_ks (h o (by simp))
    simp only [sumT, sumM, List.length_cons]
    push_cast
    omega
theorem fold_t {l : List Ky} : ∀ (x : List OpS) (a : Int), goodO l x → 0 ≤ a → a + 536870912 * (x.length : Int) ≤ 4611686018427387904 → x.foldl takeStep a = a + sumT x
  | [], a, _, _, _ => by simp [sumT]
  | o :: x, a, h, h0, hb => by
    have hk := one_ks (h o (by simp))
    simp only [List.length_cons] at hb
    push_cast at hb
    have e : takeStep a o = a + tkI o.o := by
      unfold takeStep
      by_cases h2 : o.o.k = 2
      · rw [if_pos h2]; unfold tkI; rw [if_pos h2]; omega
      · rw [if_neg h2]; unfold tkI; rw [if_neg h2]; exact IntWalk.i64_in _ (by omega)
    rw [List.foldl_cons, e, fold_t x _ h.tail (by omega) (by omega)]
    simp only [sumT]; omega
theorem fold_m {l : List Ky} : ∀ (x : List OpS) (a : Int), goodO l x → 0 ≤ a → a + 536870912 * (x.length : Int) ≤ 4611686018427387904 → x.foldl makeStep a = a + sumM x
  | [], a, _, _, _ => by simp [sumM]
  | o :: x, a, h, h0, hb => by
    have hk := one_ks (h o (by simp))
    have hs := (one_facts (h o (by simp))).2
    simp only [List.length_cons] at hb
    push_cast at hb
    have e : makeStep a o = a + mkI o.o := by
      unfold makeStep
      by_cases h2 : o.o.k = 3
      · rw [if_pos h2]; unfold mkI; rw [if_pos h2]; omega
      · rw [if_neg h2]; unfold mkI; rw [if_neg h2]; exact IntWalk.i64_in _ (by omega)
    rw [List.foldl_cons, e, fold_m x _ h.tail (by omega) (by omega)]
    simp only [sumM]; omega
theorem takes_sum {l : List Ky} {x : List OpS} (h : goodO l x) (hb : x.length ≤ 1048576) : takesP x = sumT x := by
  unfold takesP; rw [fold_t x 0 h (by omega) (by omega)]; omega
theorem makes_sum {l : List Ky} {x : List OpS} (h : goodO l x) (hb : x.length ≤ 1048576) : makesP x = sumM x := by
  unfold makesP; rw [fold_m x 0 h (by omega) (by omega)]; omega

def finR (n : Int) : Int → List OpS → Bool
  | _, [] => true
  | a, o :: x => if o.o.k = 2 then (decide (¬ a = n) && finR n a x) else if o.o.k = 3 ∧ a + o.o.n = n then false else finR n (a + o.o.n) x
theorem fold_fin {l : List Ky} (n : Int) : ∀ (x : List OpS) (a : Int), goodO l x → 0 ≤ a → a + 536870912 * (x.length : Int) ≤ 4611686018427387904 → (x.foldl (finalStep n) (true, a)).1 = finR n a x
  | [], a, _, _, _ => rfl
  | o :: x, a, h, h0, hb => by
    have hk := one_ks (h o (by simp))
    simp only [List.length_cons] at hb
    push_cast at hb
    rw [List.foldl_cons]
    unfold finalStep finR
    simp only [Bool.true_eq_false, if_false]
    by_cases h2 : o.o.k = 2
    · rw [if_pos h2, if_pos h2]
      by_cases ha : a = n
      · have := final_false n a x
        unfold finalStep at this
        simp only [ha] at this ⊢
        simp only [not_true_eq_false, decide_false, Bool.false_and]
        rw [this]
      · simp only [ha, not_false_eq_true, decide_true, Bool.true_and]
        exact fold_fin n x a h.tail h0 (by omega)
    · have e : IntKind.i64.wrap (a + o.o.n) = a + o.o.n := IntWalk.i64_in _ (by omega)
      rw [if_neg h2, if_neg h2, e]
      by_cases h3 : o.o.k = 3 ∧ a + o.o.n = n
      · rw [if_pos h3, if_pos h3]
        have := final_false n a x
        unfold finalStep at this
        rw [this]
      · rw [if_neg h3, if_neg h3]
        exact fold_fin n x _ h.tail (by omega) (by omega)
theorem final_r {l : List Ky} {x : List OpS} (n : Int) (h : goodO l x) (hb : x.length ≤ 1048576) : finalP n x = finR n 0 x := by
  unfold finalP; exact fold_fin n x 0 h (by omega) (by omega)
theorem fin_longer {l : List Ky} (n : Int) : ∀ (x : List OpS) (a : Int), goodO l x → a + sumT x < n → finR n a x = true
  | [], _, _, _ => rfl
  | o :: x, a, h, hn => by
    have hk := one_ks (h o (by simp))
    have hs := sums x h.tail
    simp only [sumT] at hn
    unfold finR
    by_cases h2 : o.o.k = 2
    · rw [if_pos h2, fin_longer n x a h.tail (by omega)]
      simp; omega
    · rw [if_neg h2, if_neg (by omega)]
      exact fin_longer n x _ h.tail (by omega)
theorem fin_makes {l : List Ky} (n : Int) : ∀ (x : List OpS) (a : Int), goodO l x → finR n a x = true → a < n → a + sumT x = n → 1 ≤ sumM x
  | [], a, _, _, h1, h2 => by simp [sumT] at h2; omega
  | o :: x, a, h, hf, h1, h2 => by
    have hk := one_ks (h o (by simp))
    have hs := sums x h.tail
    simp only [sumT] at h2
    simp only [sumM]
    unfold finR at hf
    by_cases h3 : o.o.k = 3
    · rw [if_neg (by omega)] at hf
      by_cases h4 : o.o.k = 3 ∧ a + o.o.n = n
      · rw [if_pos h4] at hf; cases hf
      · rw [if_neg h4] at hf
        have := fin_makes n x _ h.tail hf (by omega) (by omega)
        omega
    · omega
theorem longO_is {l : List Ky} {x : List OpS} {n : Int} (h : goodO l x) (hb : x.length ≤ 1048576) (h0 : 0 ≤ n) (h1 : n ≤ 4294967296) (ht : takesP x ≤ 536870912) (hm : makesP x ≤ 536870912) : longO n x = n - sumT x + sumM x := by
  have hs := sums x h
  have et := takes_sum h hb
  have em := makes_sum h hb
  unfold longO
  rw [et] at ht ⊢
  rw [em] at hm ⊢
  rw [IntWalk.i64_in (n - sumT x) (by omega), IntWalk.i64_in _ (by omega)]

/-- why a delta fits -/
theorem fits_zero {l : List Ky} {x : List OpS} {n most : Int} (h : fitsO l x n most = 0) : mayO l x = 0 ∧ 1 ≤ n ∧ n ≤ most ∧ takesP x ≤ n ∧ finalP n x = true ∧ placeP l x = true ∧ longO n x ≤ most := by
  unfold fitsO at h
  by_cases h1 : ¬ mayO l x = 0
  · rw [if_pos h1] at h; exact absurd h h1
  rw [if_neg h1] at h
  by_cases h2 : n < 1 ∨ most < n ∨ n < takesP x
  · rw [if_pos h2] at h; cases h
  rw [if_neg h2] at h
  by_cases h3 : finalP n x = false
  · rw [if_pos h3] at h; cases h
  rw [if_neg h3] at h
  by_cases h4 : placeP l x = false
  · rw [if_pos h4] at h; cases h
  rw [if_neg h4] at h
  by_cases h5 : most < longO n x
  · rw [if_pos h5] at h; cases h
  exact ⟨by omega, by omega, by omega, by omega, by simpa using h3, by simpa using h4, by omega⟩
theorem zero_fits {l : List Ky} {x : List OpS} {n most : Int} (h1 : mayO l x = 0) (h2 : 1 ≤ n) (h3 : n ≤ most) (h4 : takesP x ≤ n) (h5 : finalP n x = true) (h6 : placeP l x = true) (h7 : longO n x ≤ most) : fitsO l x n most = 0 := by
  unfold fitsO
  rw [if_neg (by simp [h1]), if_neg (by omega), if_neg (by simp [h5]), if_neg (by simp [h6]), if_neg (by omega)]

theorem fits_more {l : List Ky} {x : List OpS} {n most more : Int} (hn : 1 ≤ n) (hm : n ≤ most) (hp : 0 ≤ more) (h : ¬ fitsO l x n most = 0) :
    fitsO l x n (most + more) = fitsO l x n most ∨ (fitsO l x n most = 8 ∧ fitsO l x n (most + more) = 0) := by
  unfold fitsO at h ⊢
  by_cases h1 : ¬ mayO l x = 0
  · rw [if_pos h1, if_pos h1]; exact .inl rfl
  rw [if_neg h1] at h
  rw [if_neg h1, if_neg h1]
  by_cases h2 : n < takesP x
  · rw [if_pos (.inr (.inr h2)), if_pos (.inr (.inr h2))]; exact .inl rfl
  rw [if_neg (by omega)] at h
  rw [if_neg (show ¬ (n < 1 ∨ most + more < n ∨ n < takesP x) by omega), if_neg (show ¬ (n < 1 ∨ most < n ∨ n < takesP x) by omega)]
  by_cases h3 : finalP n x = false
  · rw [if_pos h3, if_pos h3]; exact .inl rfl
  rw [if_neg h3] at h
  rw [if_neg h3, if_neg h3]
  by_cases h4 : placeP l x = false
  · rw [if_pos h4, if_pos h4]; exact .inl rfl
  rw [if_neg h4] at h
  rw [if_neg h4, if_neg h4]
  by_cases h5 : most < longO n x
  · rw [if_pos h5]
    by_cases h6 : most + more < longO n x
    · rw [if_pos h6]; exact .inl rfl
    · rw [if_neg h6]; exact .inr ⟨rfl, rfl⟩
  · rw [if_neg h5] at h; exact absurd rfl h
theorem fits_fits {l : List Ky} {x : List OpS} {n most more : Int} (hb : x.length ≤ 1048576) (hn : n ≤ 1073741824) (hm : most ≤ 1073741824) (hp : 0 ≤ more) (hp2 : more ≤ 1073741824) (h : fitsO l x n most = 0) :
    fitsO l x n (most + more) = 0 ∧ fitsO l x (n + more) (most + more) = 0 ∧ 1 ≤ longO n x ∧ longO n x ≤ most := by
  obtain ⟨h1, h2, h3, h4, h5, h6, h7⟩ := fits_zero h
  obtain ⟨g, t, m⟩ := mayO_zero h1
  have hs := sums x g
  have et := takes_sum g hb
  have em := makes_sum g hb
  have l1 := longO_is (n := n) g hb (by omega) (by omega) t m
  have l2 := longO_is (n := n + more) g hb (by omega) (by omega) t m
  have f0 := h5
  rw [final_r n g hb] at f0
  refine ⟨zero_fits h1 h2 (by omega) h4 h5 h6 (by omega), zero_fits h1 (by omega) (by omega) (by omega) ?_ h6 (by omega), ?_, h7⟩
  · by_cases h0 : more = 0
    · subst h0; rw [show n + 0 = n by omega]; exact h5
    · rw [final_r _ g hb]; exact fin_longer _ x 0 g (by omega)
  · by_cases h0 : sumT x = n
    · have := fin_makes n x 0 g f0 (by omega) (by omega)
      omega
    · omega
theorem fits_less {l : List Ky} {x : List OpS} {n less most : Int} (hn : 1 ≤ n) (hm : n ≤ most) (h0 : 0 ≤ less) (h1 : less < n) (h : fitsO l x n most = 3 ∨ fitsO l x n most = 4 ∨ fitsO l x n most = 5) : fitsO l x (n - less) most = fitsO l x n most := by
  unfold fitsO at h ⊢
  by_cases h1 : ¬ mayO l x = 0
  · rw [if_pos h1, if_pos h1]
  rw [if_neg h1] at h
  rw [if_neg h1, if_neg h1]
  by_cases h2 : n < takesP x
  · rw [if_pos (by omega), if_pos (by omega)]
  rw [if_neg (by omega)] at h
  by_cases h3 : finalP n x = false
  · rw [if_pos h3] at h; omega
  rw [if_neg h3] at h
  by_cases h4 : placeP l x = false
  · rw [if_pos h4] at h; omega
  rw [if_neg h4] at h
  by_cases h5 : most < longO n x
  · rw [if_pos h5] at h; omega
  rw [if_neg h5] at h; omega
theorem fits_small {l : List Ky} {x : List OpS} {n most : Int} (hm : n ≤ most) (h : fitsO l x n n = 0) : fitsO l x n most = 0 := by
  obtain ⟨h1, h2, h3, h4, h5, h6, h7⟩ := fits_zero h
  exact zero_fits h1 h2 hm h4 h5 h6 (by omega)
theorem fits_retain {l : List Ky} {k n most : Int} (hk : 1 ≤ k) (hkn : k ≤ n) (hn : n ≤ 1073741824) (hm : n ≤ most) : fitsO l [(⟨⟨1, k, [], [], []⟩, none, 0, none, 0, none, 0⟩ : OpS)] n most = (if k ≤ 536870912 then 0 else 3) := by
  have hf : formO ⟨1, k, [], [], []⟩ = true := rfl
  have hz : sizeO ⟨1, k, [], [], []⟩ = k := rfl
  have hs : mayS l [] = 0 := rfl
  have hp : mayP l [] = 0 := rfl
  have et : takesP [(⟨⟨1, k, [], [], []⟩, none, 0, none, 0, none, 0⟩ : OpS)] = k := by
    show IntKind.i64.wrap (0 + k) = k
    rw [IntWalk.i64_in _ (by omega)]; omega
  have em : makesP [(⟨⟨1, k, [], [], []⟩, none, 0, none, 0, none, 0⟩ : OpS)] = k := by
    show IntKind.i64.wrap (0 + k) = k
    rw [IntWalk.i64_in _ (by omega)]; omega
  by_cases h : k ≤ 536870912
  · rw [if_pos h]
    have ho : oneP l ⟨1, k, [], [], []⟩ = 0 := by
      unfold oneP
      rw [if_pos ⟨hf, by omega, by omega⟩, if_pos hs, hp]
    have g : goodO l [(⟨⟨1, k, [], [], []⟩, none, 0, none, 0, none, 0⟩ : OpS)] := fun o hx => by
      simp at hx; subst hx; exact ho
    refine zero_fits (zero_mayO g (by omega) (by omega)) (by omega) hm (by omega) ?_ rfl ?_
    · rw [final_r n g (by simp)]; rfl
    · unfold longO
      rw [et, em, IntWalk.i64_in (n - k) (by omega), IntWalk.i64_in _ (by omega)]; omega
  · rw [if_neg h]
    have ho : oneP l ⟨1, k, [], [], []⟩ = 3 := by
      unfold oneP
      rw [if_neg (by rw [hz]; omega)]
    have hmm : mayO l [(⟨⟨1, k, [], [], []⟩, none, 0, none, 0, none, 0⟩ : OpS)] = 3 := by
      unfold mayO
      rw [if_pos (by simp [mayStep, ho])]
    unfold fitsO
    rw [hmm]; simp
theorem sumT_append (x y : List OpS) : sumT (x ++ y) = sumT x + sumT y := by
  induction x with
  | nil => simp [sumT]
  | cons o x ih => simp only [List.cons_append, sumT, ih]; omega
theorem sumM_append (x y : List OpS) : sumM (x ++ y) = sumM x + sumM y := by
  induction x with
  | nil => simp [sumM]
  | cons o x ih => simp only [List.cons_append, sumM, ih]; omega
theorem cut_may {l : List Ky} {x : List OpS} (k : Nat) (hb : x.length ≤ 1048576) (h : mayO l x = 0) :
    mayO l (x.take k) = 0 ∧ mayO l (x.drop k) = 0 ∧ IntKind.i64.wrap (takesP (x.take k) + takesP (x.drop k)) = takesP x ∧ IntKind.i64.wrap (makesP (x.take k) + makesP (x.drop k)) = makesP x ∧ placeP l x = (placeP l (x.take k) && placeP l (x.drop k)) := by
  obtain ⟨g, t, m⟩ := mayO_zero h
  have g1 : goodO l (x.take k) := fun o ho => g o (List.mem_of_mem_take ho)
  have g2 : goodO l (x.drop k) := fun o ho => g o (List.mem_of_mem_drop ho)
  have b1 : (x.take k).length ≤ 1048576 := by rw [List.length_take]; omega
  have b2 : (x.drop k).length ≤ 1048576 := by rw [List.length_drop]; omega
  have s1 := sums _ g1
  have s2 := sums _ g2
  have at' := sumT_append (x.take k) (x.drop k)
  have am := sumM_append (x.take k) (x.drop k)
  rw [List.take_append_drop] at at' am
  rw [takes_sum g hb] at t ⊢
  rw [makes_sum g hb] at m ⊢
  have t1 := takes_sum g1 b1
  have t2 := takes_sum g2 b2
  have m1 := makes_sum g1 b1
  have m2 := makes_sum g2 b2
  refine ⟨zero_mayO g1 (by omega) (by omega), zero_mayO g2 (by omega) (by omega), ?_, ?_, ?_⟩
  · rw [t1, t2, IntWalk.i64_in _ (by omega)]; omega
  · rw [m1, m2, IntWalk.i64_in _ (by omega)]; omega
  · unfold placeP
    rw [← List.all_append, List.take_append_drop]
end Go.Proofs.YtipoeidmblnbbaaGreatDoor
