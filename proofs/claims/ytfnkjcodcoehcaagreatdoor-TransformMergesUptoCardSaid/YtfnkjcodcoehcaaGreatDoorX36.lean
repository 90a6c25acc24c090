/- Merged texts. -/
import Derived.Test.YtfnkjcodcoehcaaGreatDoorX35
namespace Go.Proofs.YtfnkjcodcoehcaaGreatDoor
set_option maxRecDepth 100000
set_option maxHeartbeats 40000000
open Go.RowKit Go.MapKept
open Go.Lib (hid Utf8Tabs)
set_option linter.unusedVariables false
set_option linter.unusedSimpArgs false
def OpsB (b : Nat) (D : List OpS) : Prop := ∀ z ∈ D, isOp z.o ∧ z.o.s.length ≤ b ∧ z.o.p.length ≤ b
def Z2A (c : Option OpS) : Prop := ∃ z, c = some z ∧ z.o.k = 3
theorem Z4R {c : Option OpS} (h : Z2A c) : Z4J c = .int .i64 1 := by
 obtain ⟨z, rfl, hz⟩ := h; unfold Z4J; simp [hz]
theorem Z4S {c : Option OpS} (h : ¬ Z2A c) : Z4J c = .int .i64 0 := by
 cases c with
 | none => rfl
 | some z =>
   have hz : ¬ z.o.k = 3 := fun e => h ⟨z, rfl, e⟩
   unfold Z4J; simp [hz]
def patL (c : Option OpS) : List Ch := match c with | some z => z.o.p | none => []
def patA (c : Option OpS) : Option Addr := match c with | some z => z.Ap | none => none
def patC (c : Option OpS) : Nat := match c with | some z => z.cp | none => 0
theorem Y3w {c : Option OpS} (h : ¬ Z2A c) : patV c = .slice (patA c) (patL c).length (patC c) := by
 cases c with
 | none => rfl
 | some z =>
   have hz : ¬ z.o.k = 3 := fun e => h ⟨z, rfl, e⟩
   unfold patV; simp [hz]; exact ⟨rfl, rfl, rfl⟩
theorem Y3x {z : OpS} (hi : isOp z.o) (h2 : ¬ z.o.k = 2) (h3 : ¬ z.o.k = 3) : cel1 z = .ret z.o.p := by
 unfold cel1
 rcases hi with ⟨h, _⟩ | ⟨h, _⟩ | ⟨h, _⟩
 ·exact absurd h h2
 ·exact absurd h h3
 ·rw [if_pos h]
theorem Y3y {P : List OpS} {g : Nat} (hi : ∀ z ∈ P, isOp z.o) : ∀ z, Z0C P g = some z → isOp z.o ∧ ¬ z.o.k = 2 := fun z hz => by
 have hlt : g < Z0u P := by
  rcases Nat.lt_or_ge g (Z0u P) with h | h
  ·exact h
  ·rw [Z1U P g h] at hz; cases hz
 obtain ⟨z', h1, h2, h3⟩ := Z2y P g hlt
 rw [hz] at h1; injection h1 with h1; subst h1
 exact ⟨hi _ h2, h3⟩
theorem Y5a {w : World} {P : List OpS} {g : Nat} (h : ∀ z ∈ P, RdCh w w.heap.size z.Ap z.o.p) : RdCh w w.heap.size (patA (Z0C P g)) (patL (Z0C P g)) := by
 cases hc : Z0C P g with
 | none => exact Rd.nil
 | some z =>
   have hlt : g < Z0u P := by
    rcases Nat.lt_or_ge g (Z0u P) with h | h
    ·exact h
    ·rw [Z1U P g h] at hc; cases hc
   obtain ⟨z', h1, h2, h3⟩ := Z2y P g hlt
   rw [hc] at h1; injection h1 with h1; subst h1
   exact h _ h2
theorem Y3z {b : Nat} {P : List OpS} {g : Nat} (h : OpsB b P) : (patL (Z0C P g)).length ≤ b := by
 cases hc : Z0C P g with
 | none => exact Nat.zero_le _
 | some z =>
   have hlt : g < Z0u P := by
    rcases Nat.lt_or_ge g (Z0u P) with h | h
    ·exact h
    ·rw [Z1U P g h] at hc; cases hc
   obtain ⟨z', h1, h2, h3⟩ := Z2y P g hlt
   rw [hc] at h1; injection h1 with h1; subst h1
   exact (h _ h2).2.2
theorem Z6I {w w' : World} {b m : Nat} {t : TypeId} {c0 c1 c2 c3 : Value} (y : Hid (Below m w w')) (hm : b < m) (h : Hid (w.heap[b]? = some (.cells #[c0, c1, c2, c3] t (0, 0)))) :
 w'.cell? ⟨b, 0, none⟩ = some c0 ∧ w'.cell? ⟨b, 1, none⟩ = some c1 ∧ w'.cell? ⟨b, 2, none⟩ = some c2 ∧ w'.cell? ⟨b, 3, none⟩ = some c3 := Z37 ((y.out.block _ hm).trans h.out)
section
variable {ops : Array Oper} {rest : List Oper} {o : Oper} {a : Act} {Q : Exit → Act → World → Prop} {w w0 : World} {g b : Nat} {kv : List (Int × Value)} {v : Value}
theorem lkO (E : Hid ((Z12 kv (g : Int)).getD (.slice none 0 0) = v)) (M : Hid (MapV w0 b kv)) (y : Hid (Below w0.heap.size w0 w)) (hg : o.guard = none) (m x : Operand) (hop : o.op = Op.lookup 157 m x false) (hm : a.eval m = .map (some b)) (hx : a.eval x = .int .i64 (g : Int))
 (hK : wpList Tryz.prog ops Q rest (a.put o.dst v) w) : wpList Tryz.prog ops Q (o :: rest) a w := by
 refine Z5r hg m x hop (g : Int) hm hx Tryz.mpOps Tryz.zeroOps (M.out.ext y.out) ?_
 rw [E.out]; exact hK
theorem lkN (E : Hid ((Z12 kv (g : Int)).getD (.int .i64 0) = v)) (M : Hid (MapV w0 b kv)) (y : Hid (Below w0.heap.size w0 w)) (hg : o.guard = none) (m x : Operand) (hop : o.op = Op.lookup 158 m x false) (hm : a.eval m = .map (some b)) (hx : a.eval x = .int .i64 (g : Int))
 (hK : wpList Tryz.prog ops Q rest (a.put o.dst v) w) : wpList Tryz.prog ops Q (o :: rest) a w := by
 refine Z5r hg m x hop (g : Int) hm hx Tryz.mpNum Tryz.zeroNum (M.out.ext y.out) ?_
 rw [E.out]; exact hK
end
open Go.RowKit Go.MapKept
set_option linter.unusedVariables false
set_option linter.unusedSimpArgs false
theorem Y0H {c : Option OpS} (hc : ∀ z, c = some z → isOp z.o ∧ ¬ z.o.k = 2) : Z5f (c.map cel1) = true ↔ Z2A c := by
 cases c with
 | none => exact ⟨fun h => absurd (show false = true from h) (by decide), fun ⟨z, h, _⟩ => absurd h (by simp)⟩
 | some z =>
   obtain ⟨h1, h2⟩ := hc z rfl
   by_cases h3 : z.o.k = 3
   ·have e : cel1 z = .del := by unfold cel1; rw [if_neg (by rw [h3]; decide)]
    exact ⟨fun _ => ⟨z, rfl, h3⟩, fun _ => by show Z5f (some (cel1 z)) = true; rw [e]; rfl⟩
   ·refine ⟨fun h => ?_, fun ⟨z', hz, h⟩ => by injection hz with hz; subst hz; exact absurd h h3⟩
    have h' : Z5f (some (cel1 z)) = true := h
    rw [Y3x h1 h2 h3] at h'
    cases h'
theorem Z9x {c : Option OpS} (h : ¬ Z2A c) (hc : ∀ z, c = some z → isOp z.o ∧ ¬ z.o.k = 2) : patU (c.map cel1) = patL c := by
 cases c with
 | none => rfl
 | some z =>
   obtain ⟨h1, h2⟩ := hc z rfl
   show patU (some (cel1 z)) = _
   rw [Y3x h1 h2 (fun e => h ⟨z, rfl, e⟩)]; rfl
theorem Y3A {l : List Ky} {P : List OpS} {g : Nat} (hm : ∀ u ∈ Z0d (osOf P), mU l u) (hi : ∀ z ∈ P, isOp z.o) (h : ¬ Z2A (Z0C P g)) : mayP l (patL (Z0C P g)) = 0 := by
 rw [← Z9x h (Y3y hi), ← (Z0Y P g).2]
 cases hd : ((gapD (Z0d (osOf P)) g).dropWhile Z0n).head? with
 | none => exact Z4w l
 | some u =>
   have hmem : u ∈ Z0d (osOf P) := by
    have h1 : u ∈ (gapD (Z0d (osOf P)) g).dropWhile Z0n := List.mem_of_mem_head? (by rw [hd]; rfl)
    have h2 : ∀ (us : List Un) (g : Nat), ∀ u ∈ gapD us g, u ∈ us := by
     intro us g
     induction g with
     | zero => exact fun u hu => hu
     | succ g ih => exact fun u hu => ih u ((List.dropWhile_suffix Z0n).subset (List.mem_of_mem_tail hu))
    exact h2 _ _ _ ((List.dropWhile_suffix Z0n).subset h1)
   cases u with
   | ins r s => exact Z4w l
   | del => exact Z4w l
   | ret q => exact hm _ hmem
theorem Z2R (L : List OpS) (m : Nat) : (Z0d (osOf (L.take m))).length ≤ (Z0d (osOf L)).length := by
 have h := congrArg (fun z => (Z0d (osOf z)).length) (List.take_append_drop m L)
 simp only [Z6v, List.length_append] at h
 omega
theorem Z7m {L : List OpS} {m : Nat} {z : OpS} (h : L[m]? = some z) (hk : z.o.k = 2) : z.o.r.length ≤ (Z0d (osOf L)).length := by
 have h1 := Z2R L (m + 1)
 rw [List.take_add_one, h, Z6v, List.length_append] at h1
 have e : Z0d (osOf (some z).toList) = Z0h z.o := by show Z0h z.o ++ [] = _; rw [List.append_nil]
 have e2 : (Z0h z.o).length = z.o.r.length := by unfold Z0h; rw [if_pos hk, List.length_map]
 rw [e, e2] at h1
 omega
theorem Y6F {l : List Ky} {c : Cl} {q : List Ch} (hl : l.length ≤ 64) (hc : okCl l c) (hq : mayP l q = 0) : Z1H (actC l c q).s = true ∧ (actC l c q).s.length ≤ 64 := by
 have h := Z93 hl hc hq
 have h2 := Z00 h.2.1
 exact ⟨h2.2.1, h2.1⟩
theorem Z6A {A0 A1 Ax Ay : Option Addr} {n0 c0 n1 c1 nx cx ny cy : Nat} {l : List Ky} {d : List ClS} {x y : List OpS} {w : World} (most : Int) (e0 : n0 = l.length) (r0 : RdKy w w.heap.size A0 l) (b0 : n0 ≤ 64) (d1 : DocAt w A1 n1 c1 d) (hb : n1 ≤ 400) (h1 : OpsC w Ax nx cx x) (h2 : OpsC w Ay ny cy y) (v1 : ∀ z ∈ d, okVa z.c.s) (zx : szX x ≤ 5000) (zy : szX y ≤ 5000) (hT : Utf8Tabs 1 2 w) {Na Nb : Nat} (Ia : In l x (Z0e d) 536870912 Na) (Ib : In l y (Z0e d) 536870912 Nb) :
 Calls Tryz.prog 54 #[.slice A0 n0 c0, .slice A1 n1 c1, .slice Ax nx cx, .slice Ay ny cy, .int .i64 most] w fun e w' => Below w.heap.size w w' ∧
  ((((mrgU l (nf (Z0d (osOf x))) (nf (Z0d (osOf y))) (Z0e d)).length : Int) ≤ most ∧ ∃ A c M, e = .returned (.tuple #[.slice A M.length c, .int .i64 0]) ∧ Z0e M = mrgU l (nf (Z0d (osOf x))) (nf (Z0d (osOf y))) (Z0e d) ∧ OwCs w' w.heap.size (.slice A M.length c) M ∧ (∀ z ∈ M, PartC w' w.heap.size (.slice A M.length c) z)) ∨
   (most < ((mrgU l (nf (Z0d (osOf x))) (nf (Z0d (osOf y))) (Z0e d)).length : Int) ∧ e = .returned (.tuple #[.slice none 0 0, .int .i64 8]))) := by
 have N0 := hid e0
 have R0 := hid r0
 have D1 := hid d1
 have H1 := hid h1
 have H2 := hid h2
 have V1 := hid v1
 have ZX := hid zx
 have ZY := hid zy
 have HT := hid hT
 have IA := hid Ia
 have IB := hid Ib
 have hx := Below.refl w.heap.size w
 have LD0 : Hid ((Z0e d).length = n1) := hid d1.clen
 have B1 : Hid (∀ o ∈ x, o.o.s.length ≤ 1000 ∧ o.o.p.length ≤ 1000) := hid (fun o ho => by have h := Z1l ((Z02 Ia.may).1 o ho); have := (Z00 h.2.2.2.1).1; have := (Z0U h.2.2.2.2).1; omega)
 have B2 : Hid (∀ o ∈ y, o.o.s.length ≤ 1000 ∧ o.o.p.length ≤ 1000) := hid (fun o ho => by have h := Z1l ((Z02 Ib.may).1 o ho); have := (Z00 h.2.2.2.1).1; have := (Z0U h.2.2.2.2).1; omega)
 have MU1 : Hid (∀ u ∈ nf (Z0d (osOf x)), mU l u) := hid (Z3m (P := mU l) trivial (Z43 (Z02 Ia.may).1))
 have MU2 : Hid (∀ u ∈ nf (Z0d (osOf y)), mU l u) := hid (Z3m (P := mU l) trivial (Z43 (Z02 Ib.may).1))
 have U1 : Hid ((nf (Z0d (osOf x))).length ≤ 100000) := hid (Nat.le_trans (Z62 _) (by have h1 := Ia.ul; rw [d1.clen] at h1; omega))
 have U2 : Hid ((nf (Z0d (osOf y))).length ≤ 100000) := hid (Nat.le_trans (Z62 _) (by have h1 := Ib.ul; rw [d1.clen] at h1; omega))
 have OKC : Hid (∀ c ∈ Z0e d, okCl l c) := hid (Z3c.1 (Z1T Ia.at_).1).2.1
 have L64 : Hid (l.length ≤ 64) := hid (by rw [← e0]; exact b0)
 clear e0 r0 d1 h1 h2 v1 zx zy hT Ia Ib
 obtain ⟨R, hR⟩ : ∃ X, mrgU l (nf (Z0d (osOf x))) (nf (Z0d (osOf y))) (Z0e d) = X := ⟨_, rfl⟩
 rw [hR]
 have HR0 := hid hR
 clear hR
 go_enter Tryz.func54, Tryz.ntmps54
 go_wp2_with (go_at_call 34; refine Hid.out ?_)
 refine hid ?_
 refine (Z4Q N0.out R0.out b0 D1.out hb H1.out.at_ V1.out ZX.out HT.out IA.out (Z22 IA.out.at_ IA.out.le)).mono ?_
 rintro e wn ⟨A5, c5, M5, rfl, -, -, y⟩
 have R0 := hid (R0.out.ext y)
 have D1 := hid (D1.out.ext y)
 have H1 := hid (H1.out.ext y)
 have H2 := hid (H2.out.ext y)
 have HT := hid (Utf8Tabs_below HT.out y)
 replace hx := Z0a hx y
 clear y
 go_wp2_with (go_at_call 34; refine Hid.out ?_)
 refine hid ?_
 refine (Z4Q N0.out R0.out b0 D1.out hb H2.out.at_ V1.out ZY.out HT.out IB.out (Z22 IB.out.at_ IB.out.le)).mono ?_
 rintro e wn ⟨A6, c6, M6, rfl, -, -, y⟩
 have R0 := hid (R0.out.ext y)
 have D1 := hid (D1.out.ext y)
 have H1 := hid (H1.out.ext y)
 have H2 := hid (H2.out.ext y)
 have HT := hid (Utf8Tabs_below HT.out y)
 replace hx := Z0a hx y
 clear y
 clear HT V1
 go_wp2_with (go_at_call 122; refine Hid.out ?_)
 refine hid ?_
 refine (Z6x H1.out IA.out.may (by have := Y0e x; have := ZX.out; omega)).mono ?_
 rintro e w1 ⟨iI, iG, iP, A7, c7, P, rfl, hP, oP, pP, y1⟩
 have OP := hid oP
 have PP := hid pP
 have HP := hid hP
 have R0 := hid (R0.out.ext y1)
 have D1 := hid (D1.out.ext y1)
 have H2 := hid (H2.out.ext y1)
 replace hx := Z0a hx y1
 clear oP pP hP
 go_wp2_with (go_at_call 122; refine Hid.out ?_)
 refine hid ?_
 refine (Z6x H2.out IB.out.may (by have := Y0e y; have := ZY.out; omega)).mono ?_
 rintro e w2 ⟨jI, jG, jP, A8, c8, Q, rfl, hQ, oQ, pQ, y2⟩
 obtain ⟨NP, hNP⟩ : ∃ X, X = Z0u P := ⟨_, rfl⟩
 obtain ⟨NQ, hNQ⟩ : ∃ X, X = Z0u Q := ⟨_, rfl⟩
 rw [← hNP, ← hNQ]
 clear hNP hNQ
 have q1 := Z0b w2 (.cells #[.int .i64 (NP : Int), .map (some iI), .map (some iG), .map (some iP)] 161)
 have q2 := Z0b (w2.alloc (.cells #[.int .i64 (NP : Int), .map (some iI), .map (some iG), .map (some iP)] 161)) (.cells #[.int .i64 (NQ : Int), .map (some jI), .map (some jG), .map (some jP)] 161)
 have hbp := heap_alloc_new w2 (.cells #[.int .i64 (NP : Int), .map (some iI), .map (some iG), .map (some iP)] 161)
 have hbq := heap_alloc_new (w2.alloc (.cells #[.int .i64 (NP : Int), .map (some iI), .map (some iG), .map (some iP)] 161)) (.cells #[.int .i64 (NQ : Int), .map (some jI), .map (some jG), .map (some jP)] 161)
 have hbp2 := (q2.block _ (Z0c hbp)).trans hbp
 have sz2 : (w2.alloc (.cells #[.int .i64 (NP : Int), .map (some iI), .map (some iG), .map (some iP)] 161)).heap.size = w2.heap.size + 1 := by simp
 rw [sz2] at hbq
 have q12 := Z0a q1 q2
 have yq := Z0a y2 q12
 have R0 := hid (R0.out.ext yq)
 have D1 := hid (D1.out.ext yq)
 have OP := hid (OP.out.ext yq)
 have PP := hid (PP.out.ext yq)
 have OQ := hid (oQ.ext q12)
 have PQ := hid (pQ.ext q12)
 have HQ := hid hQ
 have HBP := hid hbp2
 have HBQ := hid hbq
 have YW0 := hid (Z0a hx yq)
 clear q1 q2 hbp hbq hbp2 sz2 q12 yq oQ pQ hQ y1 y2 hx
 go_wp2_with (fail)
 generalize hwb : (w2.alloc (.cells #[.int .i64 (NP : Int), .map (some iI), .map (some iG), .map (some iP)] 161)).alloc (.cells #[.int .i64 (NQ : Int), .map (some jI), .map (some jG), .map (some jP)] 161) = wB at *
 obtain ⟨bp, hbp⟩ : ∃ X, w2.heap.size = X := ⟨_, rfl⟩
 rw [hbp] at HBP HBQ ⊢
 obtain ⟨bq, hbq⟩ : ∃ X, bp + 1 = X := ⟨_, rfl⟩
 rw [hbq] at HBQ ⊢
 clear hwb hbp hbq H1 H2
 have EU : Hid (Z0d (osOf P) = nf (Z0d (osOf x))) := hid (Z1v HP.out)
 have EV : Hid (Z0d (osOf Q) = nf (Z0d (osOf y))) := hid (Z1v HQ.out)
 have UP : Hid ((Z0d (osOf P)).length ≤ 100000) := hid (by rw [EU.out]; exact U1.out)
 have UQ : Hid ((Z0d (osOf Q)).length ≤ 100000) := hid (by rw [EV.out]; exact U2.out)
 have BP : Hid (OpsB 1000 P) := hid (fun z hz => ⟨Z2N HP.out z hz, Y0w B1.out HP.out z hz⟩)
 have BQ : Hid (OpsB 1000 Q) := hid (fun z hz => ⟨Z2N HQ.out z hz, Y0w B2.out HQ.out z hz⟩)
 have MP : Hid (∀ u ∈ Z0d (osOf P), mU l u) := hid (by rw [EU.out]; exact MU1.out)
 have MQ : Hid (∀ u ∈ Z0d (osOf Q), mU l u) := hid (by rw [EV.out]; exact MU2.out)
 have PR : Hid (∀ z ∈ P, Z1V wB wB.heap.size z.Ar z.o.r ∧ RdAt wB wB.heap.size z.As z.o.s ∧ RdCh wB wB.heap.size z.Ap z.o.p) := hid (fun z hz => OP.out.at_.rd.2 z hz)
 have QR : Hid (∀ z ∈ Q, Z1V wB wB.heap.size z.Ar z.o.r ∧ RdAt wB wB.heap.size z.As z.o.s ∧ RdCh wB wB.heap.size z.Ap z.o.p) := hid (fun z hz => OQ.out.at_.rd.2 z hz)
 obtain ⟨kI, kG, kP, pm1, pm2, pm3, pm4, pm5, pm6⟩ := PP.out
 obtain ⟨lI, lG, lP, qm1, qm2, qm3, qm4, qm5, qm6⟩ := PQ.out
 have PM1 := hid pm1
 have PM2 := hid pm2
 have PM3 := hid pm3
 have PM4 := hid pm4
 have PM5 := hid pm5
 have PM6 := hid pm6
 have QM1 := hid qm1
 have QM2 := hid qm2
 have QM3 := hid qm3
 have QM4 := hid qm4
 have QM5 := hid qm5
 have QM6 := hid qm6
 clear pm1 pm2 pm3 pm4 pm5 pm6 qm1 qm2 qm3 qm4 qm5 qm6 PP PQ
 have HR : Hid (mrgU l (Z0d (osOf P)) (Z0d (osOf Q)) (Z0e d) = R) := hid (by rw [EU.out, EV.out]; exact HR0.out)
 go_loopg [18, 19] n1 (fun gh ov iv wr => ∃ (g : Nat) (D : List ClS), g ≤ n1 ∧ gh = n1 - g ∧ iv = .int .i64 (g : Int) ∧ OwCs wr wB.heap.size ov D ∧ Hid (∀ z ∈ D, PartC wr wB.heap.size ov z) ∧ Hid (MrgI l (Z0d (osOf P)) (Z0d (osOf Q)) (Z0e d) (Z0e D) g) ∧ Below wB.heap.size wB wr)
 case atStart => exact ⟨0, [], Nat.zero_le _, rfl, rfl, Ow.nil _ _, hid (fun z hz => by cases hz), hid (MrgI.new _ _ _ _), Below.refl _ _⟩
 case round =>
  obtain ⟨g, D, hg, hgh, rfl, hown, HPD, MI, y⟩ := hrel
  have HG := hid hgh
  have HOW := hid hown
  have YO := hid y
  clear hgh hown y
  obtain ⟨wo, hwo⟩ : ∃ X, X = wr := ⟨_, rfl⟩
  subst hwo
  have LD : Hid (D.length ≤ 300000) := hid (by have h1 := MI.out.len; rw [Z0s, LD0.out] at h1; have := UP.out; have := UQ.out; omega)
  by_cases hlt : g < n1
  ·skip
   have hlt' : (g : Int) < (n1 : Int) := by omega
   have hw2 : IntKind.i64.wrap ((g:Int) + 1) = (g : Int) + 1 := IntWalk.i64_in _ (by omega)
   obtain ⟨A3, n3, c3, eI, nI, cI1, cI2, rI⟩ := PM4.out g
   obtain ⟨A4, n4, c4, eJ, nJ, cJ1, cJ2, rJ⟩ := QM4.out g
   have EI := hid eI
   have EJ := hid eJ
   have NI := hid nI
   have NJ := hid nJ
   have RI := hid rI
   have RJ := hid rJ
   have LI : Hid (n3 ≤ 1000000) := hid (by rw [nI]; exact Nat.le_trans (Z27 _ _) OP.out.at_.b)
   have LJ : Hid (n4 ≤ 1000000) := hid (by rw [nJ]; exact Nat.le_trans (Z27 _ _) OQ.out.at_.b)
   have UI : Hid ((Z0d (osOf (Z1n P g))).length ≤ 100000) := hid (Nat.le_trans (Y3c P g) UP.out)
   have UJ : Hid ((Z0d (osOf (Z1n Q g))).length ≤ 100000) := hid (Nat.le_trans (Y3c Q g) UQ.out)
   clear eI eJ nI nJ rI rJ cI1 cI2 cJ1 cJ2
   go_wp2_with (fail)
   go_loopg [18, 20] n3 (fun gh ov iv wi => ∃ (m : Nat) (Z : List ClS), m ≤ n3 ∧ gh = n3 - m ∧ iv = .int .i64 (m : Int) ∧ OwCs wi wB.heap.size ov Z ∧ Hid (∀ z ∈ Z, PartC wi wB.heap.size ov z) ∧ Hid (Z0e Z = Z0e D ++ insC (Z0d (osOf ((Z1n P g).take m)))) ∧ Hid (Below wB.heap.size wB wi))
   case atStart => exact ⟨0, D, Nat.zero_le _, rfl, rfl, HOW.out, HPD, hid (by simp [osOf, Z0d, insC]), YO⟩
   case round =>
    obtain ⟨m, E, hm, hg2, rfl, hown, HPE, HE, YE⟩ := hrel
    have HG2 := hid hg2
    have OWE := hid hown
    clear hg2 hown
    obtain ⟨p0, p1, p2, p3⟩ := Z6I YE (Z0c HBP.out) HBP
    obtain ⟨q0, q1, q2, q3⟩ := Z6I YE (Z0c HBQ.out) HBQ
    have LE : Hid (E.length ≤ 400000) := hid (by
     have h1 := congrArg List.length HE.out
     rw [Z0s, List.length_append, Z0s] at h1
     have h2 := Z3W (us := Z0d (osOf ((Z1n P g).take m))) (fun u hu => by
      obtain ⟨z, hz, hu⟩ := List.mem_flatMap.1 hu
      obtain ⟨z2, hz2, rfl⟩ := List.mem_map.1 hz
      exact Z5e (Z7h _ (List.mem_of_mem_take hz2)) u hu)
     have h3 := Z2R (Z1n P g) m
     have := UI.out
     have := LD.out
     omega)
    by_cases hlm : (m : Int) < (n3 : Int)
    ·skip
     obtain ⟨ad, z, rfl, -, hz, hc⟩ := (RI.out.ext YE.out).elIn (i := m) (by have := NI.out; omega)
     have ZM := Z26 P g z (List.mem_of_getElem? hz)
     have ZR := hid (PR.out z ZM.1)
     have ZB := hid (BP.out z ZM.1)
     have IT := hid (Z8I hz ZM.2)
     have RL := hid (Z7m hz ZM.2)
     obtain ⟨⟨kz, nz, rz, sz, pz⟩, Arz, crz, Asz, csz, Apz, cpz⟩ := z
     simp only at ZR ZB IT RL
     have HC := hid hc.2
     have hw5 : IntKind.i64.wrap ((m:Int) + 1) = (m : Int) + 1 := IntWalk.i64_in _ (by have := LI.out; clear hw2; omega)
     clear hz hc ZM
     have AD : Hid (ad.block < wB.heap.size) := hid (by
      obtain ⟨ad2, e2, hb2, _⟩ := RI.out (by have := NI.out; omega)
      injection e2 with e2; subst e2; exact hb2)
     have opb : ∀ {W : World}, Below wr.heap.size wr W → W.cell? ⟨bp, 1, none⟩ = some (.map (some iI)) ∧ W.cell? { block := (ad.add (m * 5)).block, off := (ad.add (m * 5)).off + 2 } = some (.slice Arz rz.length crz) ∧ W.cell? { block := (ad.add (m * 5)).block, off := (ad.add (m * 5)).off + 3 } = some (.slice Asz sz.length csz) := fun {W} yw => by
      have a := Z0o (HC.out.keep (w' := W) fun q hq => yw.cell (by rw [hq, Z0q]; exact Nat.lt_of_lt_of_le AD.out YE.out.size))
      exact ⟨(Z6I (hid (Z0a YE.out yw)) (Z0c HBP.out) HBP).2.1, a.2.2.1, a.2.2.2.1⟩
     have YW : Hid (Below wr.heap.size wr wr.drew) := hid (Z0j (Below.refl _ _))
     have YZ : Hid (Below wr.heap.size wr wr) := hid (Below.refl _ _)
     have Cw := opb YZ.out
     have hl1 := (PM1.out.ext (Z0a YE.out YW.out)).look Tryz.mpOps Tryz.zeroOps (g : Int)
     rw [EI.out] at hl1
     obtain ⟨L, hL⟩ : ∃ X, rz.map (fun r => (⟨r, sz⟩ : Cl)) = X := ⟨_, rfl⟩
     have HLL := hid hL
     clear hL
     go_wp2_with (at_lookup; refine lkO EI PM1 YE rfl _ _ rfl rfl rfl ?_)
     go_region_held_law (fun w' => w'.cell? ⟨bp, 1, none⟩ = some (.map (some iI)) ∧ w'.cell? { block := (ad.add (m * 5)).block, off := (ad.add (m * 5)).off + 2 } = some (.slice Arz rz.length crz) ∧ w'.cell? { block := (ad.add (m * 5)).block, off := (ad.add (m * 5)).off + 3 } = some (.slice Asz sz.length csz)) (first | exact C9 | exact C8 | exact opb (by repeat (first | exact YW.out | exact YZ.out | refine Z0a ?_ (Z0b _ _) | refine Z0j ?_))) (first
      | (refine Z0M rfl 124 [.tmp 69, .tmp 77] #[47, 36] rfl Tryz.f124 (by kernel_rfl) (by kernel_rfl) (by kernel_rfl) [.slice Arz rz.length crz, .slice Asz sz.length csz] (by rfl) (Z7S Arz Asz rz.length crz sz.length csz rz sz _ rfl rfl (ZR.out.1.ext (Z0a YE.out (by repeat (first | exact YW.out | exact YZ.out | refine Z0a ?_ (Z0b _ _) | refine Z0j ?_)))) (ZR.out.2.1.ext (Z0a YE.out (by repeat (first | exact YW.out | exact YZ.out | refine Z0a ?_ (Z0b _ _) | refine Z0j ?_)))) (by have := RL.out; have := UI.out; clear hw2 hw5; omega) (by have := ZB.out.2.1; clear hw2 hw5; omega)) ?_
         rw [HLL.out]
         rintro e7 w7 ⟨A9, k9, L3, rfl, h3, o3, p3, y3⟩
         refine ⟨_, rfl, ?_⟩
         have Y3 := hid (Z0a (by repeat (first | exact YW.out | exact YZ.out | refine Z0a ?_ (Z0b _ _) | refine Z0j ?_)) y3)
         have YW : Hid (Below wr.heap.size wr w7) := Y3
         have O3 := hid (o3.rd ClS.enc_len)
         have P3 : Hid (∀ z ∈ L3, OwAt w7 wr.heap.size (.slice z.As z.c.s.length z.cs) z.c.s) := hid (fun z hz => (p3 z hz).1.base_le (by simp))
         have E3 := hid h3
         have L3L : Hid (L3.length ≤ 100000) := hid (by have h := congrArg List.length h3; rw [Z0s, ← HLL.out, List.length_map] at h; have := RL.out; have := UI.out; clear hw2 hw5; omega)
         have C8 := opb Y3.out
         clear h3 o3 p3 y3)
      | (refine Z49 (l := E) (m := L3) rfl (.tmp 61) (.tmp 78) (by rfl) (by rfl) (OWE.out.below Y3.out (Nat.le_refl _)) _ A9 k9 L3.length (by rfl) rfl O3.out (by have := L3L.out; have := LE.out; clear hw2 hw5; omega) (Nat.le_trans YE.out.size Y3.out.size) ?_
         intro v9 w9 ho9 hgr9 hw9
         have RR := Z28 YE.out OWE.out HPE.out Y3.out P3.out hgr9 hw9
         have O9 := hid ho9
         have P9 := hid RR.1
         have Y9 := hid RR.2
         have C9 : w9.cell? ⟨bp, 1, none⟩ = some (.map (some iI)) ∧ w9.cell? { block := (ad.add (m * 5)).block, off := (ad.add (m * 5)).off + 2 } = some (.slice Arz rz.length crz) ∧ w9.cell? { block := (ad.add (m * 5)).block, off := (ad.add (m * 5)).off + 3 } = some (.slice Asz sz.length csz) := by
          have a := Z0o (HC.out.keep (w' := w9) fun q hq => ((Y9.out.cell (by rw [hq, Z0q]; exact AD.out)).trans (YE.out.cell (by rw [hq, Z0q]; exact AD.out)).symm))
          exact ⟨(Z6I Y9 (Z0c HBP.out) HBP).2.1, a.2.2.1, a.2.2.2.1⟩
         clear ho9 hgr9 hw9 RR))
     all_goals
      go_wp2_with (fail)
      go_roundg (n3 - (m + 1))
     all_goals first
      | (have := HG2.out; clear hw2 hw5; omega)
      | (refine ⟨m + 1, E ++ L3, by clear hw2 hw5; omega, rfl, by go_num, O9.out, P9, hid ?_, Y9⟩
         rw [show Z0e (E ++ L3) = Z0e E ++ Z0e L3 from by unfold Z0e; rw [List.map_append], HE.out, E3.out, ← HLL.out, IT.out, List.append_assoc])
    have hmn : m = n3 := by omega
    replace HE : Hid (Z0e E = Z0e D ++ insC (Z0d (osOf (Z1n P g)))) := hid (by rw [HE.out, List.take_of_length_le (by have := NI.out; omega)])
    clear HG2 hmn
    go_wp2_with (at_lookup; refine lkO EI PM1 YE rfl _ _ rfl rfl rfl ?_)
    clear p0 p1 p2 p3 q0 q1 q2 q3
    go_loopg [18, 21] n4 (fun gh ov iv wi => ∃ (m : Nat) (Z : List ClS), m ≤ n4 ∧ gh = n4 - m ∧ iv = .int .i64 (m : Int) ∧ OwCs wi wB.heap.size ov Z ∧ Hid (∀ z ∈ Z, PartC wi wB.heap.size ov z) ∧ Hid (Z0e Z = Z0e E ++ insC (Z0d (osOf ((Z1n Q g).take m)))) ∧ Hid (Below wB.heap.size wB wi))
    case atStart => exact ⟨0, E, Nat.zero_le _, rfl, rfl, OWE.out, HPE, hid (by simp [osOf, Z0d, insC]), YE⟩
    case round =>
     obtain ⟨m, F, hm, hg2, rfl, hown, HPF, HF, YF⟩ := hrel
     have HG2 := hid hg2
     have OWF := hid hown
     clear hg2 hown
     obtain ⟨p0, p1, p2, p3⟩ := Z6I YF (Z0c HBP.out) HBP
     obtain ⟨q0, q1, q2, q3⟩ := Z6I YF (Z0c HBQ.out) HBQ
     have LF : Hid (F.length ≤ 500000) := hid (by
      have h1 := congrArg List.length HF.out
      rw [Z0s, List.length_append, Z0s] at h1
      have h2 := Z3W (us := Z0d (osOf ((Z1n Q g).take m))) (fun u hu => by
       obtain ⟨z, hz, hu⟩ := List.mem_flatMap.1 hu
       obtain ⟨z2, hz2, rfl⟩ := List.mem_map.1 hz
       exact Z5e (Z7h _ (List.mem_of_mem_take hz2)) u hu)
      have h3 := Z2R (Z1n Q g) m
      have := UJ.out
      have := LE.out
      omega)
     by_cases hlm : (m : Int) < (n4 : Int)
     ·skip
      obtain ⟨ad, z, rfl, -, hz, hc⟩ := (RJ.out.ext YF.out).elIn (i := m) (by have := NJ.out; omega)
      have ZM := Z26 Q g z (List.mem_of_getElem? hz)
      have ZR := hid (QR.out z ZM.1)
      have ZB := hid (BQ.out z ZM.1)
      have IT := hid (Z8I hz ZM.2)
      have RL := hid (Z7m hz ZM.2)
      obtain ⟨⟨kz, nz, rz, sz, pz⟩, Arz, crz, Asz, csz, Apz, cpz⟩ := z
      simp only at ZR ZB IT RL
      have HC := hid hc.2
      have hw5 : IntKind.i64.wrap ((m:Int) + 1) = (m : Int) + 1 := IntWalk.i64_in _ (by have := LJ.out; clear hw2; omega)
      clear hz hc ZM
      have AD : Hid (ad.block < wB.heap.size) := hid (by
       obtain ⟨ad2, e2, hb2, _⟩ := RJ.out (by have := NJ.out; omega)
       injection e2 with e2; subst e2; exact hb2)
      have opb : ∀ {W : World}, Below wr.heap.size wr W → W.cell? ⟨bq, 1, none⟩ = some (.map (some jI)) ∧ W.cell? { block := (ad.add (m * 5)).block, off := (ad.add (m * 5)).off + 2 } = some (.slice Arz rz.length crz) ∧ W.cell? { block := (ad.add (m * 5)).block, off := (ad.add (m * 5)).off + 3 } = some (.slice Asz sz.length csz) := fun {W} yw => by
       have a := Z0o (HC.out.keep (w' := W) fun q hq => yw.cell (by rw [hq, Z0q]; exact Nat.lt_of_lt_of_le AD.out YF.out.size))
       exact ⟨(Z6I (hid (Z0a YF.out yw)) (Z0c HBQ.out) HBQ).2.1, a.2.2.1, a.2.2.2.1⟩
      have YW : Hid (Below wr.heap.size wr wr.drew) := hid (Z0j (Below.refl _ _))
      have YZ : Hid (Below wr.heap.size wr wr) := hid (Below.refl _ _)
      have Cw := opb YZ.out
      have hl1 := (QM1.out.ext (Z0a YF.out YW.out)).look Tryz.mpOps Tryz.zeroOps (g : Int)
      rw [EJ.out] at hl1
      obtain ⟨L, hL⟩ : ∃ X, rz.map (fun r => (⟨r, sz⟩ : Cl)) = X := ⟨_, rfl⟩
      have HLL := hid hL
      clear hL
      go_wp2_with (at_lookup; refine lkO EJ QM1 YF rfl _ _ rfl rfl rfl ?_)
      go_region_held_law (fun w' => w'.cell? ⟨bq, 1, none⟩ = some (.map (some jI)) ∧ w'.cell? { block := (ad.add (m * 5)).block, off := (ad.add (m * 5)).off + 2 } = some (.slice Arz rz.length crz) ∧ w'.cell? { block := (ad.add (m * 5)).block, off := (ad.add (m * 5)).off + 3 } = some (.slice Asz sz.length csz)) (first | exact C9 | exact C8 | exact opb (by repeat (first | exact YW.out | exact YZ.out | refine Z0a ?_ (Z0b _ _) | refine Z0j ?_))) (first
       | (refine Z0M rfl 124 [.tmp 97, .tmp 105] #[47, 36] rfl Tryz.f124 (by kernel_rfl) (by kernel_rfl) (by kernel_rfl) [.slice Arz rz.length crz, .slice Asz sz.length csz] (by rfl) (Z7S Arz Asz rz.length crz sz.length csz rz sz _ rfl rfl (ZR.out.1.ext (Z0a YF.out (by repeat (first | exact YW.out | exact YZ.out | refine Z0a ?_ (Z0b _ _) | refine Z0j ?_)))) (ZR.out.2.1.ext (Z0a YF.out (by repeat (first | exact YW.out | exact YZ.out | refine Z0a ?_ (Z0b _ _) | refine Z0j ?_)))) (by have := RL.out; have := UJ.out; clear hw2 hw5; omega) (by have := ZB.out.2.1; clear hw2 hw5; omega)) ?_
          rw [HLL.out]
          rintro e7 w7 ⟨A9, k9, L3, rfl, h3, o3, p3, y3⟩
          refine ⟨_, rfl, ?_⟩
          have Y3 := hid (Z0a (by repeat (first | exact YW.out | exact YZ.out | refine Z0a ?_ (Z0b _ _) | refine Z0j ?_)) y3)
          have YW : Hid (Below wr.heap.size wr w7) := Y3
          have O3 := hid (o3.rd ClS.enc_len)
          have P3 : Hid (∀ z ∈ L3, OwAt w7 wr.heap.size (.slice z.As z.c.s.length z.cs) z.c.s) := hid (fun z hz => (p3 z hz).1.base_le (by simp))
          have E3 := hid h3
          have L3L : Hid (L3.length ≤ 100000) := hid (by have h := congrArg List.length h3; rw [Z0s, ← HLL.out, List.length_map] at h; have := RL.out; have := UJ.out; clear hw2 hw5; omega)
          have C8 := opb Y3.out
          clear h3 o3 p3 y3)
       | (refine Z49 (l := F) (m := L3) rfl (.tmp 89) (.tmp 106) (by rfl) (by rfl) (OWF.out.below Y3.out (Nat.le_refl _)) _ A9 k9 L3.length (by rfl) rfl O3.out (by have := L3L.out; have := LF.out; clear hw2 hw5; omega) (Nat.le_trans YF.out.size Y3.out.size) ?_
          intro v9 w9 ho9 hgr9 hw9
          have RR := Z28 YF.out OWF.out HPF.out Y3.out P3.out hgr9 hw9
          have O9 := hid ho9
          have P9 := hid RR.1
          have Y9 := hid RR.2
          have C9 : w9.cell? ⟨bq, 1, none⟩ = some (.map (some jI)) ∧ w9.cell? { block := (ad.add (m * 5)).block, off := (ad.add (m * 5)).off + 2 } = some (.slice Arz rz.length crz) ∧ w9.cell? { block := (ad.add (m * 5)).block, off := (ad.add (m * 5)).off + 3 } = some (.slice Asz sz.length csz) := by
           have a := Z0o (HC.out.keep (w' := w9) fun q hq => ((Y9.out.cell (by rw [hq, Z0q]; exact AD.out)).trans (YF.out.cell (by rw [hq, Z0q]; exact AD.out)).symm))
           exact ⟨(Z6I Y9 (Z0c HBQ.out) HBQ).2.1, a.2.2.1, a.2.2.2.1⟩
          clear ho9 hgr9 hw9 RR))
      all_goals
       go_wp2_with (fail)
       go_roundg (n4 - (m + 1))
      all_goals first
       | (have := HG2.out; clear hw2 hw5; omega)
       | (refine ⟨m + 1, F ++ L3, by clear hw2 hw5; omega, rfl, by go_num, O9.out, P9, hid ?_, Y9⟩
          rw [show Z0e (F ++ L3) = Z0e F ++ Z0e L3 from by unfold Z0e; rw [List.map_append], HF.out, E3.out, ← HLL.out, IT.out, List.append_assoc])
     have hmn : m = n4 := by omega
     replace HF : Hid (Z0e F = Z0e E ++ insC (Z0d (osOf (Z1n Q g)))) := hid (by rw [HF.out, List.take_of_length_le (by have := NJ.out; omega)])
     clear HG2 hmn
     obtain ⟨wf, hwf⟩ : ∃ X, X = wr := ⟨_, rfl⟩
     subst hwf
     have HF2 : Hid (Z0e F = Z0e D ++ (insC ((gapD (Z0d (osOf P)) g).takeWhile Z0n) ++ insC ((gapD (Z0d (osOf Q)) g).takeWhile Z0n))) := hid (by rw [HF.out, HE.out, (Z0Y P g).1, (Z0Y Q g).1, List.append_assoc])
     obtain ⟨ad1, z, hA1, _, _, hz1, hcz⟩ := (D1.out.rd.ext YF.out).1.el (i := g) (by rw [← D1.out.len]; exact hlt)
     have zm := List.mem_of_getElem? hz1
     have ZC := hid (Z2b hz1)
     have GZ := hid (D1.out.rd.2 z zm)
     have OZ := hid (OKC.out z.c (List.mem_of_getElem? (Z2b hz1)))
     have AD1 : Hid (ad1.block < wB.heap.size) := hid (by
      obtain ⟨ad2, e2, hb2, _⟩ := D1.out.rd.1 (by rw [← D1.out.len]; omega)
      rw [hA1] at e2; injection e2 with e2; subst e2; exact hb2)
     have ST := hid (MI.out.step ZC.out)
     have HCZ := hid hcz
     clear zm hz1 hcz
     have hq0 := Y3y (P := P) (g := g) (fun z hz => (BP.out z hz).1)
     have hq1 := Y3y (P := Q) (g := g) (fun z hz => (BQ.out z hz).1)
     have GP := hid (Y0H hq0)
     have GQ := hid (Y0H hq1)
     have PU := hid (fun h => Z9x (c := Z0C P g) h hq0)
     have QU := hid (fun h => Z9x (c := Z0C Q g) h hq1)
     clear hq0 hq1
     have VGP : Hid ((Z12 kG (g : Int)).getD (.int .i64 0) = Z4J (Z0C P g)) := hid (PM5.out g)
     have VGQ : Hid ((Z12 lG (g : Int)).getD (.int .i64 0) = Z4J (Z0C Q g)) := hid (QM5.out g)
     by_cases k11 : Z2A (Z0C P g) ∧ Z2A (Z0C Q g)
     ·skip
      have GG : Hid (Z5f ((Z0C P g).map cel1) = true ∨ Z5f ((Z0C Q g).map cel1) = true) := hid (.inl (GP.out.2 k11.1))
      rw [Z4R k11.1] at VGP
      rw [Z4R k11.2] at VGQ
      have hsum : IntKind.i64.wrap ((1 : Int) + 1) = 2 := by decide
      clear k11
      replace ST : Hid (MrgI l (Z0d (osOf P)) (Z0d (osOf Q)) (Z0e d) (Z0e F) (g + 1)) := hid (by
       have h := ST.out
       rw [(Z0Y P g).2, (Z0Y Q g).2] at h
       rw [HF2.out]
       have e : Z5g l ((Z0C P g).map cel1) ((Z0C Q g).map cel1) z.c = [] := by unfold Z5g; rw [if_pos GG.out]
       rw [e, List.append_nil] at h
       exact h)
      clear hA1
      go_wp2_with (first | (at_lookup; refine lkO EJ QM1 YF rfl _ _ rfl rfl rfl ?_) | (at_lookup; refine lkN VGP PM2 YF rfl _ _ rfl rfl rfl ?_) | (at_lookup; refine lkN VGQ QM2 YF rfl _ _ rfl rfl rfl ?_))
      go_roundg (n1 - (g + 1))
      case measure => have := HG.out; clear hw2; omega
      case rel => exact ⟨g + 1, F, by clear hw2; omega, rfl, by go_num, OWF.out, HPF, ST, YF.out⟩
     by_cases k10 : Z2A (Z0C P g) ∧ ¬ Z2A (Z0C Q g)
     ·skip
      have GG : Hid (Z5f ((Z0C P g).map cel1) = true ∨ Z5f ((Z0C Q g).map cel1) = true) := hid (.inl (GP.out.2 k10.1))
      rw [Z4R k10.1] at VGP
      rw [Z4S k10.2] at VGQ
      have hsum : IntKind.i64.wrap ((1 : Int) + 0) = 1 := by decide
      clear k10
      replace ST : Hid (MrgI l (Z0d (osOf P)) (Z0d (osOf Q)) (Z0e d) (Z0e F) (g + 1)) := hid (by
       have h := ST.out
       rw [(Z0Y P g).2, (Z0Y Q g).2] at h
       rw [HF2.out]
       have e : Z5g l ((Z0C P g).map cel1) ((Z0C Q g).map cel1) z.c = [] := by unfold Z5g; rw [if_pos GG.out]
       rw [e, List.append_nil] at h
       exact h)
      clear hA1
      go_wp2_with (first | (at_lookup; refine lkO EJ QM1 YF rfl _ _ rfl rfl rfl ?_) | (at_lookup; refine lkN VGP PM2 YF rfl _ _ rfl rfl rfl ?_) | (at_lookup; refine lkN VGQ QM2 YF rfl _ _ rfl rfl rfl ?_))
      go_roundg (n1 - (g + 1))
      case measure => have := HG.out; clear hw2; omega
      case rel => exact ⟨g + 1, F, by clear hw2; omega, rfl, by go_num, OWF.out, HPF, ST, YF.out⟩
     by_cases k01 : ¬ Z2A (Z0C P g) ∧ Z2A (Z0C Q g)
     ·skip
      have GG : Hid (Z5f ((Z0C P g).map cel1) = true ∨ Z5f ((Z0C Q g).map cel1) = true) := hid (.inr (GQ.out.2 k01.2))
      rw [Z4S k01.1] at VGP
      rw [Z4R k01.2] at VGQ
      have hsum : IntKind.i64.wrap ((0 : Int) + 1) = 1 := by decide
      clear k01
      replace ST : Hid (MrgI l (Z0d (osOf P)) (Z0d (osOf Q)) (Z0e d) (Z0e F) (g + 1)) := hid (by
       have h := ST.out
       rw [(Z0Y P g).2, (Z0Y Q g).2] at h
       rw [HF2.out]
       have e : Z5g l ((Z0C P g).map cel1) ((Z0C Q g).map cel1) z.c = [] := by unfold Z5g; rw [if_pos GG.out]
       rw [e, List.append_nil] at h
       exact h)
      clear hA1
      go_wp2_with (first | (at_lookup; refine lkO EJ QM1 YF rfl _ _ rfl rfl rfl ?_) | (at_lookup; refine lkN VGP PM2 YF rfl _ _ rfl rfl rfl ?_) | (at_lookup; refine lkN VGQ QM2 YF rfl _ _ rfl rfl rfl ?_))
      go_roundg (n1 - (g + 1))
      case measure => have := HG.out; clear hw2; omega
      case rel => exact ⟨g + 1, F, by clear hw2; omega, rfl, by go_num, OWF.out, HPF, ST, YF.out⟩
     have nP : ¬ Z2A (Z0C P g) := fun h => by
      by_cases h2 : Z2A (Z0C Q g)
      ·exact k11 ⟨h, h2⟩
      ·exact k10 ⟨h, h2⟩
     have nQ : ¬ Z2A (Z0C Q g) := fun h => k01 ⟨nP, h⟩
     clear k11 k10 k01
     rw [Z4S nP] at VGP
     rw [Z4S nQ] at VGQ
     have hsum : IntKind.i64.wrap ((0 : Int) + 0) = 0 := by decide
     have VPP : Hid ((Z12 kP (g : Int)).getD (.slice none 0 0) = .slice (patA (Z0C P g)) (patL (Z0C P g)).length (patC (Z0C P g))) := hid (by rw [PM6.out g]; exact Y3w nP)
     have VPQ : Hid ((Z12 lP (g : Int)).getD (.slice none 0 0) = .slice (patA (Z0C Q g)) (patL (Z0C Q g)).length (patC (Z0C Q g))) := hid (by rw [QM6.out g]; exact Y3w nQ)
     have YPM := hid (Y3A MP.out (fun z hz => (BP.out z hz).1) nP)
     have YQM := hid (Y3A MQ.out (fun z hz => (BQ.out z hz).1) nQ)
     have RPP := hid (Y5a (g := g) (fun z hz => (PR.out z hz).2.2))
     have RPQ := hid (Y5a (g := g) (fun z hz => (QR.out z hz).2.2))
     have BPP := hid (Y3z (g := g) BP.out)
     have BPQ := hid (Y3z (g := g) BQ.out)
     have GU : Hid (¬ (Z5f ((Z0C P g).map cel1) = true ∨ Z5f ((Z0C Q g).map cel1) = true)) := hid (fun h => h.elim (fun h => nP (GP.out.1 h)) (fun h => nQ (GQ.out.1 h)))
     replace PU := hid (PU.out nP)
     replace QU := hid (QU.out nQ)
     clear nP nQ GP GQ
     obtain ⟨pA, hpA⟩ : ∃ X, patA (Z0C P g) = X := ⟨_, rfl⟩
     obtain ⟨pL, hpL⟩ : ∃ X, patL (Z0C P g) = X := ⟨_, rfl⟩
     obtain ⟨pC, hpC⟩ : ∃ X, patC (Z0C P g) = X := ⟨_, rfl⟩
     obtain ⟨qA, hqA⟩ : ∃ X, patA (Z0C Q g) = X := ⟨_, rfl⟩
     obtain ⟨qL, hqL⟩ : ∃ X, patL (Z0C Q g) = X := ⟨_, rfl⟩
     obtain ⟨qC, hqC⟩ : ∃ X, patC (Z0C Q g) = X := ⟨_, rfl⟩
     rw [hpA, hpL, hpC] at VPP
     rw [hqA, hqL, hqC] at VPQ
     rw [hpL] at YPM BPP PU
     rw [hqL] at YQM BPQ QU
     rw [hpA, hpL] at RPP
     rw [hqA, hqL] at RPQ
     clear hpA hpL hpC hqA hqL hqC
     obtain ⟨⟨r1, s1⟩, As1, cs1⟩ := z
     simp only at GZ OZ ZC ST HCZ
     have S1 : Hid (Z1H s1 = true ∧ s1.length ≤ 64) := hid (by have h := Z00 OZ.out.2.1; exact ⟨h.2.1, h.1⟩)
     obtain ⟨X1, hX1⟩ : ∃ X, (actC l ⟨r1, s1⟩ qL).s = X := ⟨_, rfl⟩
     have AX1 : Hid (actC l ⟨r1, s1⟩ qL = ⟨r1, X1⟩) := hid (by rw [← hX1]; rfl)
     have S2 : Hid (Z1H X1 = true ∧ X1.length ≤ 64) := hid (by rw [← hX1]; exact Y6F L64.out OZ.out YQM.out)
     have HX1 := hid hX1
     clear hX1
     obtain ⟨X2, hX2⟩ : ∃ X, (actC l ⟨r1, X1⟩ pL).s = X := ⟨_, rfl⟩
     have AX2 : Hid (actC l ⟨r1, X1⟩ pL = ⟨r1, X2⟩) := hid (by rw [← hX2]; rfl)
     have HX2 := hid hX2
     clear hX2
     replace ST : Hid (MrgI l (Z0d (osOf P)) (Z0d (osOf Q)) (Z0e d) (Z0e F ++ [⟨r1, X2⟩]) (g + 1)) := hid (by
      have h := ST.out
      rw [(Z0Y P g).2, (Z0Y Q g).2] at h
      have e : Z5g l ((Z0C P g).map cel1) ((Z0C Q g).map cel1) ⟨r1, s1⟩ = [⟨r1, X2⟩] := by unfold Z5g; rw [if_neg GU.out, PU.out, QU.out, AX1.out, AX2.out]
      rw [e] at h
      rw [HF2.out, List.append_assoc, List.append_assoc]
      exact h)
     have RPL : Hid (Z1W pL = true ∧ Z1W qL = true) := hid ⟨(Z0U YPM.out).2.1, (Z0U YQM.out).2.1⟩
     have celB : ∀ {W : World}, Below wB.heap.size wB W → W.cell? (ad1.add (g * 2)) = some (.int .i32 r1) ∧ W.cell? { block := (ad1.add (g * 2)).block, off := (ad1.add (g * 2)).off + 1 } = some (.slice As1 s1.length cs1) ∧ W.cell? ⟨bq, 3, none⟩ = some (.map (some jP)) ∧ W.cell? ⟨bp, 3, none⟩ = some (.map (some iP)) := fun {W} yw => by
      have a := Z03 (HCZ.out.keep (w' := W) fun q hq => (yw.cell (by rw [hq, Z0q]; exact AD1.out)).trans (YF.out.cell (by rw [hq, Z0q]; exact AD1.out)).symm)
      exact ⟨a.1, a.2, (Z6I (hid yw) (Z0c HBQ.out) HBQ).2.2.2, (Z6I (hid yw) (Z0c HBP.out) HBP).2.2.2⟩
     have YW : Hid (Below wf.heap.size wf wf.drew) := hid (Z0j (Below.refl _ _))
     have YZ : Hid (Below wf.heap.size wf wf) := hid (Below.refl _ _)
     have Cw := celB YF.out
     have hl1 := (PM3.out.ext (Z0a YF.out YW.out)).look Tryz.mpChs Tryz.zeroChs (g : Int)
     have hl2 := (QM3.out.ext (Z0a YF.out YW.out)).look Tryz.mpChs Tryz.zeroChs (g : Int)
     rw [VPP.out] at hl1
     rw [VPQ.out] at hl2
     go_wp2_with (first | (at_lookup; refine lkO EJ QM1 YF rfl _ _ rfl rfl rfl ?_) | (at_lookup; refine lkN VGP PM2 YF rfl _ _ rfl rfl rfl ?_) | (at_lookup; refine lkN VGQ QM2 YF rfl _ _ rfl rfl rfl ?_))
     go_region_held_law (fun w' => w'.cell? (ad1.add (g * 2)) = some (.int .i32 r1) ∧ w'.cell? { block := (ad1.add (g * 2)).block, off := (ad1.add (g * 2)).off + 1 } = some (.slice As1 s1.length cs1) ∧ w'.cell? ⟨bq, 3, none⟩ = some (.map (some jP)) ∧ w'.cell? ⟨bp, 3, none⟩ = some (.map (some iP))) (first | exact C9 | exact C8 | exact C7 | exact celB (Z0a YF.out (by repeat (first | exact YW.out | exact YZ.out | refine Z0a ?_ (Z0b _ _) | refine Z0j ?_)))) (first
      | (refine Z0M rfl 38 [.tmp 120, .tmp 124, .tmp 128] #[22, 38, 48] rfl Tryz.f38 (by kernel_rfl) (by kernel_rfl) (by kernel_rfl) [.slice A0 n0 c0, .agg #[.int .i32 r1, .slice As1 s1.length cs1], .slice qA qL.length qC] (by rfl) (Z5h A0 n0 c0 l r1 As1 qA s1.length cs1 qL.length qC s1 qL _ N0.out (R0.out.ext (Z0a YF.out (by repeat (first | exact YW.out | exact YZ.out | refine Z0a ?_ (Z0b _ _) | refine Z0j ?_)))) (by clear hw2; omega) rfl rfl (GZ.out.ext (Z0a YF.out (by repeat (first | exact YW.out | exact YZ.out | refine Z0a ?_ (Z0b _ _) | refine Z0j ?_)))) (RPQ.out.ext (Z0a YF.out (by repeat (first | exact YW.out | exact YZ.out | refine Z0a ?_ (Z0b _ _) | refine Z0j ?_)))) (by have := S1.out.2; clear hw2; omega) (by have := BPQ.out; clear hw2; omega) S1.out.1 RPL.out.2) ?_
         rw [HX1.out]
         rintro e7 w7 ⟨A9, c9, rfl, o7, y7⟩
         refine ⟨_, rfl, ?_⟩
         have Y7 := hid (Z0a (by repeat (first | exact YW.out | exact YZ.out | refine Z0a ?_ (Z0b _ _) | refine Z0j ?_)) y7)
         have YW : Hid (Below wf.heap.size wf w7) := Y7
         have O7 := hid (o7.rd At.enc_len)
         have C7 := celB (Z0a YF.out Y7.out)
         have hl3 := (PM3.out.ext (Z0a YF.out Y7.out)).look Tryz.mpChs Tryz.zeroChs (g : Int)
         rw [VPP.out] at hl3
         clear o7 y7)
      | (refine Z0M rfl 38 [.tmp 119, .tmp 129, .tmp 133] #[22, 38, 48] rfl Tryz.f38 (by kernel_rfl) (by kernel_rfl) (by kernel_rfl) [.slice A0 n0 c0, .agg #[.int .i32 r1, .slice A9 X1.length c9], .slice pA pL.length pC] (by rfl) (Z5h A0 n0 c0 l r1 A9 pA X1.length c9 pL.length pC X1 pL _ N0.out (R0.out.ext (Z0a YF.out (by repeat (first | exact YW.out | exact YZ.out | refine Z0a ?_ (Z0b _ _) | refine Z0j ?_)))) (by clear hw2; omega) rfl rfl (by first | exact O7.out | exact O7.out.ext (Z0j (Below.refl _ _))) (RPP.out.ext (Z0a YF.out (by repeat (first | exact YW.out | exact YZ.out | refine Z0a ?_ (Z0b _ _) | refine Z0j ?_)))) (by have := S2.out.2; clear hw2; omega) (by have := BPP.out; clear hw2; omega) S2.out.1 RPL.out.1) ?_
         rw [HX2.out]
         rintro e8 w8 ⟨A10, c10, rfl, o8, y8⟩
         refine ⟨_, rfl, ?_⟩
         have Y8 := hid (Z0a (by repeat (first | exact YW.out | exact YZ.out | refine Z0a ?_ (Z0b _ _) | refine Z0j ?_)) y8)
         have YW : Hid (Below wf.heap.size wf w8) := Y8
         have O8 : Hid (OwAt w8 wf.heap.size (.slice A10 X2.length c10) X2) := hid (o8.base_le Y7.out.size)
         have C8 := celB (Z0a YF.out Y8.out)
         clear o8 y8)
      | (refine Z49 (l := F) (m := [(⟨⟨r1, X2⟩, A10, c10⟩ : ClS)]) rfl (.tmp 118) (.tmp 135) (by rfl) (by rfl) (OWF.out.below (Z0a Y8.out (Z0b _ _)) (Nat.le_refl _)) _ _ 1 1 (by rfl) rfl (Z1s (enc := ClS.enc) (size := 2) _ _ (⟨⟨r1, X2⟩, A10, c10⟩ : ClS) rfl (by simp)) (by have := LF.out; simp only [List.length_singleton]; clear hw2; omega) (Nat.le_trans YF.out.size (Z0a Y8.out (Z0b _ _)).size) ?_
         intro v9 w9 ho9 hgr9 hw9
         have RR := Z28 YF.out OWF.out HPF.out (Z0a Y8.out (Z0b _ _)) (M := [⟨⟨r1, X2⟩, A10, c10⟩]) (fun z hz => by
          rw [List.mem_singleton] at hz; subst hz
          exact O8.out.below (Z0b _ _) (Nat.le_refl _)) hgr9 hw9
         have O9 := hid ho9
         have P9 := hid RR.1
         have Y9 := hid RR.2
         have C9 := celB Y9.out
         clear ho9 hgr9 hw9 RR))
     all_goals
      go_wp2_with (fail)
      rw [← hA1]
      go_roundg (n1 - (g + 1))
     all_goals first
      | (have := HG.out; clear hw2; omega)
      | (exact ⟨g + 1, F ++ [⟨⟨r1, X2⟩, A10, c10⟩], by clear hw2; omega, rfl, by go_num, O9.out, P9, hid (by rw [show Z0e (F ++ [(⟨⟨r1, X2⟩, A10, c10⟩ : ClS)]) = Z0e F ++ [⟨r1, X2⟩] from by unfold Z0e; rw [List.map_append]; rfl]; exact ST.out), Y9.out⟩)
  have hge : n1 ≤ g := by omega
  have hlt' : ¬ (g : Int) < (n1 : Int) := by omega
  have HU : Hid (Z0e D = R) := hid (by have h := MI.out.done (by rw [LD0.out]; exact hge); rw [HR.out] at h; exact h)
  have HL : Hid (R.length = D.length) := hid (by rw [← HU.out, Z0s])
  obtain ⟨AO, cO, hvo, _, _⟩ := HOW.out.form
  subst hvo
  by_cases hlong : most < (D.length : Int)
  ·skip
   go_wp2_with (fail)
   refine bodyPost_ret (v := .tuple #[.slice none 0 0, .int .i64 8]) (by simp [results, Tryz.results54, go_sem]) rfl ?_
   exact ⟨Z0a YW0.out YO.out, .inr ⟨by rw [HL.out]; exact hlong, rfl⟩⟩
  go_wp2_with (fail)
  refine bodyPost_ret (v := .tuple #[.slice AO D.length cO, .int .i64 0]) (by simp [results, Tryz.results54, go_sem]) rfl ?_
  exact ⟨Z0a YW0.out YO.out, .inl ⟨by rw [HL.out]; omega, AO, cO, D, rfl, HU.out, HOW.out.base_le YW0.out.size, fun z hz => (HPD.out z hz).base_le YW0.out.size⟩⟩
end Go.Proofs.YtfnkjcodcoehcaaGreatDoor
