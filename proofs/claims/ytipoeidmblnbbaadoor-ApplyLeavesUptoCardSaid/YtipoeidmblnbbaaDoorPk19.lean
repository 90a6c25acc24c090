/- Merged texts: OpMay, OpShut. -/
import Derived.Test.YtipoeidmblnbbaaDoorPk11
import Derived.Test.YtipoeidmblnbbaaDoorShutUpPd
/- The walks of ops.one and ops.May. -/
namespace Go.Proofs.YtipoeidmblnbbaaDoor
open Go.RowKit
set_option linter.unusedVariables false
set_option linter.unusedSimpArgs false

/-- why an op may not be -/
def oneP (l : List Ky) (o : Opd) : Int :=
  if formO o = true ∧ 1 ≤ sizeO o ∧ sizeO o ≤ 536870912 then (if mayS l o.s = 0 then mayP l o.p else mayS l o.s) else 3
/-- the fields' ranges of an op's values -/
def okOp (o : Opd) : Prop := okVr o.s ∧ okVs o.p ∧ o.r.length ≤ 100000000 ∧ o.s.length ≤ 100000000 ∧ o.p.length ≤ 100000000

set_option maxRecDepth 100000 in
set_option maxHeartbeats 1600000 in
theorem opOne_any (sc : Nat) (l : List Ky) (k n : Int) (Ar As Ap : Option Addr) (r : List Int) (s : List At) (p : List Ch) (cr cs cp : Nat) (w : World) (hS : Sch w sc l) (h1 : RdI32 w w.heap.size Ar r) (h2 : RdAt w w.heap.size As s) (h3 : RdCh w w.heap.size Ap p) (ho : okOp ⟨k, n, r, s, p⟩) (hT : Lib.Utf8Tabs 1 2 w) :
    Calls Tryd.prog 80 #[.pointer (some ⟨sc, 0, none⟩), .agg #[.int .u8 k, .int .i64 n, .slice Ar r.length cr, .slice As s.length cs, .slice Ap p.length cp]] w fun e w' => e = .returned (.int .i64 (oneP l ⟨k, n, r, s, p⟩)) ∧ Below w.heap.size w w' := by
  obtain ⟨v1, v2, b1, b2, b3⟩ := ho
  simp only at v1 v2 b1 b2 b3
  have y := ext_alloc w (.cells #[.int .u8 k, .int .i64 n, .slice Ar r.length cr, .slice As s.length cs, .slice Ap p.length cp] 45)
  have hbx := heap_alloc_new w (.cells #[.int .u8 k, .int .i64 n, .slice Ar r.length cr, .slice As s.length cs, .slice Ap p.length cp] 45)
  obtain ⟨R, hR⟩ : ∃ X, oneP l ⟨k, n, r, s, p⟩ = X := ⟨_, rfl⟩
  rw [hR]
  unfold oneP at hR
  have HR := Lib.hid hR
  have HBX := Lib.hid hbx
  clear hR hbx
  go_enter Tryd.func80, Tryd.ntmps80
  go_wp2_with (go_at_call 108; refine Hid.out ?_)
  refine Lib.hid ?_
  refine (formO_any k n Ar As Ap r s p cr cs cp _ (h1.ext y) (by omega)).mono ?_
  rintro e w1 ⟨rfl, y1⟩
  have HBX := Lib.hid ((y1.block _ (lt_of_some HBX.out)).trans HBX.out)
  replace y := ext_trans y y1
  clear y1
  generalize hF : formO ⟨k, n, r, s, p⟩ = F
  have HF := Lib.hid hF
  clear hF
  cases F with
  | false =>
    go_wp2_with (fail)
    go_ret
    exact ⟨ret_int (by rw [← HR.out, HF.out]; rfl), y⟩
  | true =>
    obtain ⟨c0, c1, c2, c3, c4⟩ := box_at HBX.out
    go_wp2_with (go_at_call 109; refine Hid.out ?_)
    refine Lib.hid ?_
    refine (sizeO_any k n Ar As Ap r.length s.length p.length cr cs cp _).mono ?_
    rintro e w2 ⟨rfl, y2⟩
    have HBX := Lib.hid ((y2.block _ (lt_of_some HBX.out)).trans HBX.out)
    replace y := ext_trans y y2
    clear y2 c0 c1 c2 c3 c4
    obtain ⟨Z, hZ⟩ : ∃ Z : Int, (if k = 2 then (r.length : Int) else n) = Z := ⟨_, rfl⟩
    rw [hZ]
    have HZ : Hid (sizeO ⟨k, n, r, s, p⟩ = Z) := Lib.hid hZ
    have HZ2 := Lib.hid hZ
    clear hZ
    by_cases z1 : Z < 1
    · go_wp2_with (fail)
      go_ret
      exact ⟨ret_int (by rw [← HR.out, HZ.out, if_neg (show ¬ (_ ∧ 1 ≤ Z ∧ _) by omega)]), y⟩
    · obtain ⟨c0, c1, c2, c3, c4⟩ := box_at HBX.out
      go_wp2_with (go_at_call 109; refine Hid.out ?_)
      refine Lib.hid ?_
      refine (sizeO_any k n Ar As Ap r.length s.length p.length cr cs cp _).mono ?_
      rintro e w2 ⟨rfl, y2⟩
      have HBX := Lib.hid ((y2.block _ (lt_of_some HBX.out)).trans HBX.out)
      replace y := ext_trans y y2
      clear y2 c0 c1 c2 c3 c4
      rw [HZ2.out]
      by_cases z2 : 536870912 < Z
      · go_wp2_with (fail)
        go_ret
        exact ⟨ret_int (by rw [← HR.out, HZ.out, if_neg (show ¬ (_ ∧ 1 ≤ Z ∧ Z ≤ 536870912) by omega)]), y⟩
      · have HR2 : Hid ((if mayS l s = 0 then mayP l p else mayS l s) = R) := Lib.hid (by rw [← HR.out, HZ.out, HF.out, if_pos (show true = true ∧ 1 ≤ Z ∧ Z ≤ 536870912 from ⟨rfl, by omega, by omega⟩)])
        obtain ⟨c0, c1, c2, c3, c4⟩ := box_at HBX.out
        go_wp2_with (go_at_call 33; refine Hid.out ?_)
        refine Lib.hid ?_
        refine (mayS_any sc l As s.length cs s _ rfl (h2.ext y) (by omega) (hS.ext y) v1 (Utf8Tabs_below hT y)).mono ?_
        rintro e w3 ⟨rfl, y3⟩
        have HBX := Lib.hid ((y3.block _ (lt_of_some HBX.out)).trans HBX.out)
        replace y := ext_trans y y3
        clear y3 c0 c1 c2 c3 c4
        generalize mayS l s = E at HR2 ⊢
        by_cases hE : E = 0
        · subst hE
          have HR3 : Hid (mayP l p = R) := Lib.hid (by rw [← HR2.out, if_pos rfl])
          obtain ⟨c0, c1, c2, c3, c4⟩ := box_at HBX.out
          go_wp2_with (go_at_call 110; refine Hid.out ?_)
          refine Lib.hid ?_
          refine (mayP_any sc l Ap p.length cp p _ rfl (h3.ext y) (by omega) (hS.ext y) v2 (Utf8Tabs_below hT y)).mono ?_
          rintro e w4 ⟨rfl, y4⟩
          rw [HR3.out]
          replace y := ext_trans y y4
          go_wp2_with (fail)
          go_ret
          exact ⟨rfl, y⟩
        · have hne : (E == 0) = false := beq_eq_false_iff_ne.2 hE
          have HE : Hid (E = R) := Lib.hid (by rw [← HR2.out, if_neg hE])
          clear hE
          go_wp2_with (fail)
          go_ret
          exact ⟨ret_int HE.out, y⟩

/-- a delta's ops, one by one -/
def mayStep (l : List Ky) (st : Bool × Int) (x : OpS) : Bool × Int :=
  if st.1 = true then st else if oneP l x.o = 3 then (true, 3) else (false, if oneP l x.o = 0 then st.2 else oneP l x.o)
def mayO (l : List Ky) (x : List OpS) : Int :=
  if (x.foldl (mayStep l) (false, 0)).1 = true then 3 else if takesP x ≤ 536870912 ∧ makesP x ≤ 536870912 then (x.foldl (mayStep l) (false, 0)).2 else 3
theorem mayStep_true (l : List Ky) (a : Int) : ∀ x : List OpS, x.foldl (mayStep l) (true, a) = (true, a)
  | [] => rfl
  | x :: r => by rw [List.foldl_cons]; unfold mayStep; simp only [if_true]; exact mayStep_true l a r
theorem mstep_drop {l : List Ky} {x : List OpS} {m : Nat} {o : OpS} {a : Int} {R : Bool × Int} (hd : x.drop m = o :: x.drop (m + 1)) (h : (x.drop m).foldl (mayStep l) (false, a) = R) : (x.drop (m + 1)).foldl (mayStep l) (mayStep l (false, a) o) = R := by
  rw [hd] at h; exact h
set_option maxRecDepth 100000 in
set_option maxHeartbeats 1600000 in
theorem mayO_any (sc : Nat) (l : List Ky) (A : Option Addr) (n c : Nat) (x : List OpS) (w : World) (hn : n = x.length) (h : RdOp w w.heap.size A x) (hb : n ≤ 140737488355328) (hS : Sch w sc l) (ho : ∀ o ∈ x, okOp o.o) (hT : Lib.Utf8Tabs 1 2 w) :
    Calls Tryd.prog 55 #[.pointer (some ⟨sc, 0, none⟩), .slice A n c] w fun e w' => e = .returned (.int .i64 (mayO l x)) ∧ Below w.heap.size w w' := by
  have N := Lib.hid hn
  obtain ⟨R, hR⟩ : ∃ X, mayO l x = X := ⟨_, rfl⟩
  rw [hR]
  unfold mayO at hR
  obtain ⟨ST, hST⟩ : ∃ X, x.foldl (mayStep l) (false, 0) = X := ⟨_, rfl⟩
  rw [hST] at hR
  have HR := Lib.hid hR
  have HST := Lib.hid hST
  clear hR hST hn
  go_enter Tryd.func55, Tryd.ntmps55
  go_wp2_with (fail)
  go_loopg [5, 11] n (fun g av iv wr => ∃ (m : Nat) (a : Int), m ≤ n ∧ g = n - m ∧ av = .int .i64 a ∧ iv = .int .i64 (m : Int) ∧ Below w.heap.size w wr ∧ Hid ((x.drop m).foldl (mayStep l) (false, a) = ST))
  case atStart => exact ⟨0, 0, by omega, rfl, rfl, rfl, Below.refl _ _, Lib.hid (by rw [List.drop_zero]; exact HST.out)⟩
  case round =>
    obtain ⟨m, a, hm, hg, rfl, rfl, y, HI⟩ := hrel
    have HG := Lib.hid hg
    clear hg
    by_cases hlt : m < n
    · have hl1 : m < x.length := by have := N.out; omega
      obtain ⟨ad, o, had0, had, hd1, hx1, hc0⟩ := (h.1.below y (Nat.le_refl _)).el hl1
      subst had0
      have hmem := List.mem_of_getElem? hx1
      have hok := ho o hmem
      obtain ⟨g1, g2, g3⟩ := h.2 o hmem
      have HI2 := Lib.hid (mstep_drop hd1 HI.out)
      obtain ⟨⟨k, nn, r, s, p⟩, Ar, cr, As, cs, Ap, cp⟩ := o
      obtain ⟨r0, r1, r2, r3, r4⟩ := op_cells hc0
      simp only at g1 g2 g3
      have y2 := ext_trans y (ext_alloc wr (.cells #[.int .u8 k, .int .i64 nn, .slice Ar r.length cr, .slice As s.length cs, .slice Ap p.length cp] 45))
      have hw2 : IntKind.i64.wrap ((m:Int) + 1) = (m : Int) + 1 := IntWalk.i64_in _ (by omega)
      clear hc0 hd1 hx1 hmem HI
      go_wp2_with (go_at_call 80; refine Hid.out ?_)
      refine Lib.hid ?_
      refine (opOne_any sc l k nn Ar As Ap r s p cr cs cp _ (hS.ext y2) (g1.ext y2) (g2.ext y2) (g3.ext y2) hok (Utf8Tabs_below hT y2)).mono ?_
      rintro e w3 ⟨rfl, y3⟩
      have yy := ext_trans y2 y3
      have HI3 : Hid ((x.drop (m + 1)).foldl (mayStep l) (if oneP l ⟨k, nn, r, s, p⟩ = 3 then (true, 3) else (false, if oneP l ⟨k, nn, r, s, p⟩ = 0 then a else oneP l ⟨k, nn, r, s, p⟩)) = ST) := Lib.hid HI2.out
      generalize oneP l ⟨k, nn, r, s, p⟩ = E at HI3 ⊢
      clear HI2
      by_cases e3 : E = 3
      · subst e3
        have HS3 : Hid (ST = (true, 3)) := Lib.hid (by rw [← HI3.out, if_pos rfl, mayStep_true])
        go_wp2_with (fail)
        go_ret
        exact ⟨ret_int (by rw [← HR.out, HS3.out]; rfl), yy⟩
      · have e3b : (E == 3) = false := beq_eq_false_iff_ne.2 e3
        by_cases e0 : E = 0
        · subst e0
          have HI4 : Hid ((x.drop (m + 1)).foldl (mayStep l) (false, a) = ST) := Lib.hid (by rw [← HI3.out, if_neg e3, if_pos rfl])
          clear e3 e3b
          go_wp2_with (fail)
          go_roundg (n - (m + 1))
          case measure => have := HG.out; omega
          case rel => exact ⟨m + 1, a, by omega, rfl, rfl, by go_num, yy, HI4⟩
        · have e0b : (E == 0) = false := beq_eq_false_iff_ne.2 e0
          have HI4 : Hid ((x.drop (m + 1)).foldl (mayStep l) (false, E) = ST) := Lib.hid (by rw [← HI3.out, if_neg e3, if_neg e0])
          clear e3 e0
          go_wp2_with (fail)
          go_roundg (n - (m + 1))
          case measure => have := HG.out; omega
          case rel => exact ⟨m + 1, E, by omega, rfl, rfl, by go_num, yy, HI4⟩
    · have HS4 : Hid (ST = (false, a)) := Lib.hid (by rw [← HI.out, List.drop_eq_nil_of_le (by have := N.out; omega)]; rfl)
      have HR2 : Hid ((if takesP x ≤ 536870912 ∧ makesP x ≤ 536870912 then a else 3) = R) := Lib.hid (by rw [← HR.out, HS4.out]; rfl)
      clear HI HG
      go_wp2_with (go_at_call 81; refine Hid.out ?_)
      refine Lib.hid ?_
      refine (takes_any A n c x _ N.out (h.ext y).1 hb).mono ?_
      rintro e w3 ⟨rfl, y3⟩
      replace y := ext_trans y y3
      generalize takesP x = T at HR2 ⊢
      by_cases t1 : 536870912 < T
      · go_wp2_with (fail)
        go_ret
        exact ⟨ret_int (by rw [← HR2.out, if_neg (by omega)]), y⟩
      · go_wp2_with (go_at_call 82; refine Hid.out ?_)
        refine Lib.hid ?_
        refine (makes_any A n c x _ N.out (h.ext y).1 hb).mono ?_
        rintro e w4 ⟨rfl, y4⟩
        replace y := ext_trans y y4
        generalize makesP x = U at HR2 ⊢
        by_cases u1 : 536870912 < U
        · go_wp2_with (fail)
          go_ret
          exact ⟨ret_int (by rw [← HR2.out, if_neg (by omega)]), y⟩
        · have HR3 : Hid (a = R) := Lib.hid (by rw [← HR2.out, if_pos ⟨by omega, by omega⟩])
          go_wp2_with (fail)
          go_ret
          exact ⟨ret_int HR3.out, y⟩
end Go.Proofs.YtipoeidmblnbbaaDoor
/- A slice of ops opened: each op's parts as lists, with the bounds of the bulk. -/
namespace Go.Proofs.YtipoeidmblnbbaaDoor
open Go.ChangeShapes Go.WideShapes Go.ChangeAt Go.RowKit Go.Deep
set_option linter.unusedVariables false
set_option linter.constructorNameAsVariable false
set_option maxRecDepth 20000

/-- a slice's cell as a list, whatever the reader of one element -/
theorem open_listT {α : Type} {enc' : α → List Value} {size : Nat} {H : Type} {enc : TypeId × Value → H} {W : World} {base : Nat} {spare : Nat → Bool} {held : Bool} {t e : TypeId} {fuel0 : Nat} {cs0 : List Value} {x0 : DataW H × List MemPlace} (Pr : α → DataW H → Prop)
    (ht : Tryd.prog.underlying t = some (.slice e)) (hC : Tryd.prog.cellsOf e = size) (hz : ∀ a, (enc' a).length = size) (hpos : 0 < size)
    (hread : ∀ {fuel : Nat} {cs : List Value} {x : DataW H × List MemPlace}, DataW.trod enc Tryd.prog W base spare held fuel e cs = some x → ∃ a : α, cs = enc' a ∧ Pr a x.1)
    (hf : DataW.trod enc Tryd.prog W base spare held fuel0 t cs0 = some x0) :
    ∃ (A : Option Addr) (n c : Nat) (l : List α), cs0 = [.slice A n c] ∧ n = l.length ∧ n ≤ c ∧ c ≤ maxLen ∧ Rd enc' size W W.heap.size A l ∧ n + 1 ≤ Rows.uptoBulk x0.1 ∧ ∀ a ∈ l, ∃ d', Pr a d' ∧ Rows.uptoBulk d' ≤ Rows.uptoBulk x0.1 := by
  rcases open_slice ht hf with ⟨hcs, hx⟩ | ⟨a, len, cap, m, k, D, Pl, hcs, _, hl, hm, hmm, hx, hi⟩
  · exact ⟨none, 0, 0, [], hcs, rfl, Nat.le_refl _, Nat.zero_le _, Rd.nil, bulk_one _, fun a ha => by cases ha⟩
  · have hlm : len ≤ m := by rw [hmm]; split <;> omega
    have hd : x0.1 = .slice ((List.range len).map D) ((List.range (m - len)).map fun j => D (len + j)) := by have := congrArg Prod.fst hx; simpa using this
    have hbulk : ∀ i, i < len → Rows.uptoBulk (D i) ≤ Rows.uptoBulk x0.1 := by
      intro i hil
      have h1 := bulk_mem (d := D i) (l := (List.range len).map D) (List.mem_map.2 ⟨i, List.mem_range.2 hil, rfl⟩)
      rw [hd]
      simp only [Rows.uptoBulk]
      omega
    have hlen1 : len + 1 ≤ Rows.uptoBulk x0.1 := by
      have h1 := bulk_len ((List.range len).map D)
      rw [List.length_map, List.length_range] at h1
      rw [hd]
      simp only [Rows.uptoBulk]
      omega
    have hall : ∀ i, i < len → ∃ y : α, CellsAt W (a.add (i * size)) (enc' y) ∧ Pr y (D i) := by
      intro i hil
      obtain ⟨cs', hc, htr⟩ := hi i (by omega)
      obtain ⟨y, rfl, hp⟩ := hread htr
      refine ⟨y, fun j u hu => ?_, hp⟩
      rw [hC] at hc
      obtain ⟨_, hcl, hat⟩ := World.cells?_some hc
      have hj : j < size := by rw [← hz y]; exact (List.getElem?_eq_some_iff.1 hu).1
      rw [hat j hj]; exact hu
    have hl : ∀ k, k ≤ len → ∃ l : List α, l.length = k ∧ (∀ i (h : i < l.length), CellsAt W (a.add (i * size)) (enc' l[i])) ∧ ∀ y ∈ l, ∃ d', Pr y d' ∧ Rows.uptoBulk d' ≤ Rows.uptoBulk x0.1 := by
      intro k
      induction k with
      | zero => intro _; exact ⟨[], rfl, fun i h => by simp at h, fun y hy => by cases hy⟩
      | succ k ih =>
        intro hk
        obtain ⟨l, hll, hlc, hlp⟩ := ih (by omega)
        obtain ⟨y, hy, hyp⟩ := hall k (by omega)
        refine ⟨l ++ [y], by simp [hll], fun i h => ?_, fun z hz => ?_⟩
        · rw [List.getElem_append]
          split
          · exact hlc i _
          · have hik : i = k := by simp at h; omega
            subst hik
            simpa [hll] using hy
        · rcases List.mem_append.1 hz with h1 | h1
          · exact hlp z h1
          · simp at h1; subst h1; exact ⟨_, hyp, hbulk k (by omega)⟩
    obtain ⟨l, hll, hlc, hlp⟩ := hl len (Nat.le_refl _)
    refine ⟨some a, len, cap, l, hcs, hll.symm, by assumption, by assumption, fun hpl => ⟨a, rfl, ?_, hlc⟩, hlen1, hlp⟩
    have hc0 := hlc 0 hpl
    have hlen0 : 0 < (enc' l[0]).length := by rw [hz]; exact hpos
    have hcell := hc0 0 _ (List.getElem?_eq_getElem hlen0)
    rw [add_zero', Nat.zero_mul, add_zero'] at hcell
    unfold World.cell? at hcell
    cases hb : W.heap[a.block]? with
    | none => rw [hb] at hcell; simp at hcell
    | some o => exact blk_lt hb

theorem Tryd.qOp : Tryd.prog.underlying 45 = some (.struct (Tryd.prog.fieldsOf 45)) := by kernel_rfl
theorem Tryd.qfOp : (Tryd.prog.fieldsOf 45).toList.map (fun f => (f.type, f.offset)) = [(5, 0), (3, 1), (36, 2), (42, 3), (43, 4)] := by kernel_rfl
theorem Tryd.qcOp : Tryd.prog.cellsOf 45 = 5 := by kernel_rfl
theorem Tryd.qcSR : Tryd.prog.cellsOf 36 = 1 := by kernel_rfl
theorem Tryd.qcSA : Tryd.prog.cellsOf 42 = 1 := by kernel_rfl
theorem Tryd.qcSC : Tryd.prog.cellsOf 43 = 1 := by kernel_rfl
theorem Tryd.qslOp : Tryd.prog.underlying 33 = some (.slice 45) := by kernel_rfl

section
variable {H : Type} {enc : TypeId × Value → H} {w : World} {base : Nat} {spare : Nat → Bool} {held : Bool} {fuel : Nat} {cs : List Value} {x : DataW H × List MemPlace}
theorem read_i32d (h : DataW.trod enc Tryd.prog w base spare held fuel 21 cs = some x) : ∃ a : Int, cs = encI32 a ∧ True := by
  obtain ⟨a, ha, _, _⟩ := DataW.trod_int Tryd.uI32 h
  exact ⟨a, ha, trivial⟩
/-- what an op's datum says of it -/
def opPr {H : Type} (w : World) (o : OpS) (d : DataW H) : Prop :=
  (RdI32 w w.heap.size o.Ar o.o.r ∧ RdAt w w.heap.size o.As o.o.s ∧ RdCh w w.heap.size o.Ap o.o.p) ∧ (Rows.uptoBulk d ≤ 100000000 → okOp o.o)
set_option maxHeartbeats 800000 in
theorem read_opd (h : DataW.trod enc Tryd.prog w base spare held fuel 45 cs = some x) : ∃ o : OpS, cs = OpS.enc o ∧ opPr w o x.1 := by
  obtain ⟨xs, n, _, hx, hlen, hxl, hf⟩ := DataW.trod_struct Tryd.qOp h
  obtain ⟨f0, e0, t0, o0⟩ := field_at Tryd.qfOp (i := 0) rfl
  obtain ⟨f1, e1, t1, o1⟩ := field_at Tryd.qfOp (i := 1) rfl
  obtain ⟨f2, e2, t2, o2⟩ := field_at Tryd.qfOp (i := 2) rfl
  obtain ⟨f3, e3, t3, o3⟩ := field_at Tryd.qfOp (i := 3) rfl
  obtain ⟨f4, e4, t4, o4⟩ := field_at Tryd.qfOp (i := 4) rfl
  have hsz : (Tryd.prog.fieldsOf 45).size = 5 := by kernel_rfl
  have h0 := hf 0 f0 e0
  have h1 := hf 1 f1 e1
  have h2 := hf 2 f2 e2
  have h3 := hf 3 f3 e3
  have h4 := hf 4 f4 e4
  rw [t0, o0, Tryd.qcU8] at h0
  rw [t1, o1, Tryd.qcInt] at h1
  rw [t2, o2, Tryd.qcSR] at h2
  rw [t3, o3, Tryd.qcSA] at h3
  rw [t4, o4, Tryd.qcSC] at h4
  rw [Tryd.qcOp] at hlen
  rw [hsz] at hxl
  match cs, hlen, xs, hxl with
  | [c0, c1, c2, c3, c4], _, [y0, y1, y2, y3, y4], _ =>
    obtain ⟨a, ha, _, wa⟩ := DataW.trod_int Tryd.qU8 (x := y0) (by simpa using h0)
    obtain ⟨b, hb, _, wb⟩ := DataW.trod_int Tryd.qInt (x := y1) (by simpa using h1)
    obtain ⟨A2, n2, k2, r, hr, m2, _, _, R2, z2, _⟩ := open_listT (fun _ _ => True) Tryd.slI32 Tryd.clI32 encI32_len (by omega) read_i32d (x0 := y2) (by simpa using h2)
    obtain ⟨A3, n3, k3, s, hs, m3, _, _, R3, z3, P3⟩ := open_listT (fun a d => okV a.v ∧ a.v.s.size + 1 ≤ Rows.uptoBulk d) Tryd.slAt Tryd.qcAt At.enc_len (by omega) read_atd (x0 := y3) (by simpa using h3)
    obtain ⟨A4, n4, k4, p, hp, m4, _, _, R4, z4, P4⟩ := open_listT (fun a d => okV a.v ∧ a.v.s.size + 1 ≤ Rows.uptoBulk d) Tryd.slCh Tryd.qcCh Ch.enc_len (by omega) read_chd (x0 := y4) (by simpa using h4)
    subst m2 m3 m4
    simp at ha hb hr hs hp
    refine ⟨⟨⟨a, b, r, s, p⟩, A2, k2, A3, k3, A4, k4⟩, by simp [ha, hb, hr, hs, hp, OpS.enc], ⟨R2, R3, R4⟩, fun hbu => ?_⟩
    rw [hx] at hbu
    have hm2 := bulk_mem (d := y2.1) (l := [y0, y1, y2, y3, y4].map (·.1)) (by simp)
    have hm3 := bulk_mem (d := y3.1) (l := [y0, y1, y2, y3, y4].map (·.1)) (by simp)
    have hm4 := bulk_mem (d := y4.1) (l := [y0, y1, y2, y3, y4].map (·.1)) (by simp)
    simp only [Rows.uptoBulk] at hbu
    refine ⟨fun c hc => ?_, fun c hc => ?_, ?_, ?_, ?_⟩
    · obtain ⟨d', ⟨h1, h2⟩, h3⟩ := P3 c hc
      exact h1
    · obtain ⟨d', ⟨h1, h2⟩, h3⟩ := P4 c hc
      exact ⟨h1, by omega⟩
    · show r.length ≤ _; omega
    · show s.length ≤ _; omega
    · show p.length ≤ _; omega
end
end Go.Proofs.YtipoeidmblnbbaaDoor
