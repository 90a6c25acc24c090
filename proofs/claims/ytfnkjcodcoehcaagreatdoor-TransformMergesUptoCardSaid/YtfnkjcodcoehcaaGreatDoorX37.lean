/- Merged texts. -/
import Derived.Test.YtfnkjcodcoehcaaGreatDoorX35
namespace Go.Proofs.YtfnkjcodcoehcaaGreatDoor
set_option maxRecDepth 100000
set_option maxHeartbeats 6400000
open Go.RowKit
open Go.Lib (hid Utf8Tabs)
set_option linter.unusedVariables false
set_option linter.unusedSimpArgs false
theorem Z9y {A0 A1 Ax Ay : Option Addr} {n0 c0 n1 c1 nx cx ny cy : Nat} {l : List Ky} {d : List ClS} {x y : List OpS} {w : World} (most : Int) (e0 : n0 = l.length) (r0 : RdKy w w.heap.size A0 l) (b0 : n0 ≤ 64) (d1 : DocAt w A1 n1 c1 d) (hb : n1 ≤ 400) (h1 : OpsAt w Ax nx x) (h2 : OpsAt w Ay ny y) (v1 : ∀ z ∈ d, okVa z.c.s) (zx : szX x ≤ 5000) (zy : szX y ≤ 5000) (hT : Utf8Tabs 1 2 w) {r : Int} (hr : Z0F l x (Z0e d) 536870912 = r) (hne : r ≠ 0) {Nb : Nat} (hs : Z0F l y (Z0e d) 536870912 = 0 → In l y (Z0e d) 536870912 Nb) :
 Calls Tryz.prog 54 #[.slice A0 n0 c0, .slice A1 n1 c1, .slice Ax nx cx, .slice Ay ny cy, .int .i64 most] w fun e w' => e = .returned (.tuple #[.slice none 0 0, .int .i64 r]) ∧ Below w.heap.size w w' := by
 have N0 := hid e0
 have R0 := hid r0
 have D1 := hid d1
 have H1 := hid h1
 have H2 := hid h2
 have V1 := hid v1
 have ZX := hid zx
 have ZY := hid zy
 have HT := hid hT
 have HR := hid hr
 have hx := Below.refl w.heap.size w
 have hne' : (r == 0) = false := beq_eq_false_iff_ne.2 hne
 have hne'' : (r != 0) = true := by rw [bne, hne']; rfl
 have HS := hid hs
 clear hs
 clear e0 r0 d1 h1 h2 v1 zx zy hT hr
 go_enter Tryz.func54, Tryz.ntmps54
 go_wp2_with (go_at_call 34; refine Hid.out ?_)
 refine hid ?_
 refine (Z5i N0.out R0.out (by omega) D1.out H1.out V1.out ZX.out HT.out HR.out hne).mono ?_
 rintro e wn ⟨rfl, y⟩
 have R0 := hid (R0.out.ext y)
 have D1 := hid (D1.out.ext y)
 have H1 := hid (H1.out.ext y)
 have H2 := hid (H2.out.ext y)
 have HT := hid (Utf8Tabs_below HT.out y)
 replace hx := Z0a hx y
 clear y
 obtain ⟨r2, hr2⟩ : ∃ X, Z0F l y (Z0e d) 536870912 = X := ⟨_, rfl⟩
 have HR2 := hid hr2
 clear hr2
 by_cases h2 : r2 = 0
 ·skip
  subst h2
  go_wp2_with (go_at_call 34; refine Hid.out ?_)
  refine hid ?_
  refine (Z4Q N0.out R0.out b0 D1.out hb H2.out V1.out ZY.out HT.out (HS.out HR2.out) HR2.out).mono ?_
  rintro e wn ⟨A6, c6, M6, rfl, -, -, y⟩
  have R0 := hid (R0.out.ext y)
  have D1 := hid (D1.out.ext y)
  have H1 := hid (H1.out.ext y)
  have H2 := hid (H2.out.ext y)
  have HT := hid (Utf8Tabs_below HT.out y)
  replace hx := Z0a hx y
  clear y
  go_wp2_with (fail)
  refine bodyPost_ret (v := .tuple #[.slice none 0 0, .int .i64 r]) (by simp [results, Tryz.results54, go_sem]) rfl ?_
  exact ⟨rfl, hx⟩
 go_wp2_with (go_at_call 34; refine Hid.out ?_)
 refine hid ?_
 refine (Z5i N0.out R0.out (by omega) D1.out H2.out V1.out ZY.out HT.out HR2.out h2).mono ?_
 rintro e wn ⟨rfl, y⟩
 have R0 := hid (R0.out.ext y)
 have D1 := hid (D1.out.ext y)
 have H1 := hid (H1.out.ext y)
 have H2 := hid (H2.out.ext y)
 have HT := hid (Utf8Tabs_below HT.out y)
 replace hx := Z0a hx y
 clear y
 go_wp2_with (fail)
 refine bodyPost_ret (v := .tuple #[.slice none 0 0, .int .i64 r]) (by simp [results, Tryz.results54, go_sem]) rfl ?_
 exact ⟨rfl, hx⟩
theorem Z9z {A0 A1 Ax Ay : Option Addr} {n0 c0 n1 c1 nx cx ny cy : Nat} {l : List Ky} {d : List ClS} {x y : List OpS} {w : World} (most : Int) (e0 : n0 = l.length) (r0 : RdKy w w.heap.size A0 l) (b0 : n0 ≤ 64) (d1 : DocAt w A1 n1 c1 d) (hb : n1 ≤ 400) (h1 : OpsAt w Ax nx x) (h2 : OpsAt w Ay ny y) (v1 : ∀ z ∈ d, okVa z.c.s) (zx : szX x ≤ 5000) (zy : szX y ≤ 5000) (hT : Utf8Tabs 1 2 w) {r : Int} {Na : Nat} (Ia : In l x (Z0e d) 536870912 Na) (hr : Z0F l y (Z0e d) 536870912 = r) (hne : r ≠ 0) :
 Calls Tryz.prog 54 #[.slice A0 n0 c0, .slice A1 n1 c1, .slice Ax nx cx, .slice Ay ny cy, .int .i64 most] w fun e w' => e = .returned (.tuple #[.slice none 0 0, .int .i64 r]) ∧ Below w.heap.size w w' := by
 have N0 := hid e0
 have R0 := hid r0
 have D1 := hid d1
 have H1 := hid h1
 have H2 := hid h2
 have V1 := hid v1
 have ZX := hid zx
 have ZY := hid zy
 have HT := hid hT
 have HR := hid hr
 have hx := Below.refl w.heap.size w
 have hne' : (r == 0) = false := beq_eq_false_iff_ne.2 hne
 have hne'' : (r != 0) = true := by rw [bne, hne']; rfl
 have IA := hid Ia
 clear Ia
 clear e0 r0 d1 h1 h2 v1 zx zy hT hr
 go_enter Tryz.func54, Tryz.ntmps54
 go_wp2_with (go_at_call 34; refine Hid.out ?_)
 refine hid ?_
 refine (Z4Q N0.out R0.out b0 D1.out hb H1.out V1.out ZX.out HT.out IA.out (Z22 IA.out.at_ IA.out.le)).mono ?_
 rintro e wn ⟨A6, c6, M6, rfl, -, -, y⟩
 have R0 := hid (R0.out.ext y)
 have D1 := hid (D1.out.ext y)
 have H1 := hid (H1.out.ext y)
 have H2 := hid (H2.out.ext y)
 have HT := hid (Utf8Tabs_below HT.out y)
 replace hx := Z0a hx y
 clear y
 go_wp2_with (go_at_call 34; refine Hid.out ?_)
 refine hid ?_
 refine (Z5i N0.out R0.out (by omega) D1.out H2.out V1.out ZY.out HT.out HR.out hne).mono ?_
 rintro e wn ⟨rfl, y⟩
 have R0 := hid (R0.out.ext y)
 have D1 := hid (D1.out.ext y)
 have H1 := hid (H1.out.ext y)
 have H2 := hid (H2.out.ext y)
 have HT := hid (Utf8Tabs_below HT.out y)
 replace hx := Z0a hx y
 clear y
 go_wp2_with (fail)
 refine bodyPost_ret (v := .tuple #[.slice none 0 0, .int .i64 r]) (by simp [results, Tryz.results54, go_sem]) rfl ?_
 exact ⟨rfl, hx⟩
theorem Y5b (u : World) (l : List OpS) (hs : Sub u u.heap.size l) {cs : Array Value} (hc : cs.toList = l.flatMap OpS.enc) {b : Nat} (hb : b = u.heap.size) :
 RdOp (u.alloc (.cells cs 50)) (u.alloc (.cells cs 50)).heap.size (some ⟨b, 0, none⟩) l :=
 ⟨Rd.new (enc := OpS.enc) (size := 5) OpS.enc_len u 50 l hc hb, hs.ext (Z0b u _)⟩
theorem Y0I (o : Opd) (h1 : o.s = []) (h2 : o.p = []) (h3 : o.r.length ≤ 10) : okOp o := by
 refine ⟨?_, ?_, by omega, by rw [h1]; simp, by rw [h2]; simp⟩
 ·rw [h1]; intro c hc; cases hc
 ·rw [h2]; intro c hc; cases hc
def kK19 : List Ky := [⟨1, false, 1, false, false, 0⟩]
theorem Z3k {w : World} {A B : Option Addr} {n c n2 c2 : Nat} {x z : List OpS} (h1 : OpsAt w A n x) (h2 : OpsAt w B n2 z) {b : Bool} (hb : decide (osOf x = osOf z) = b) :
 Calls Tryz.prog 22 #[.slice A n c, .slice B n2 c2] w fun e w' => e = .returned (.bool b) ∧ Below w.heap.size w w' := by
 have h := Y1i A B n n2 c c2 x z w h1.len h2.len h1.rd h2.rd (by have := h1.b; omega) (by have := h2.b; omega) (fun o ho => by obtain ⟨_, _, a, b, c⟩ := h1.ok o ho; omega) (fun o ho => by obtain ⟨_, _, a, b, c⟩ := h2.ok o ho; omega)
 rw [hb] at h
 exact h
theorem Y5U (s : Nat) (l : List Ky) (A : Option Addr) (n c : Nat) (x : List OpS) (p : Int) (a : Bool) (w : World) (hX : OpsAt w A n x) (hS : Sch w s l) (hT : Utf8Tabs 1 2 w) {r : Int} (hr : mayO l x = r) (h0 : r ≠ 0) :
 Calls Tryz.prog 49 #[.pointer (some ⟨s, 0, none⟩), .slice A n c, .int .i64 p, .bool a] w fun e w' => e = .returned (.tuple #[.int .i64 0, .int .i64 r]) ∧ Below w.heap.size w w' := by
 have XX := hid hX
 have HR := hid hr
 have h0' : (r == 0) = false := beq_eq_false_iff_ne.2 h0
 have h0'' : (r != 0) = true := by rw [bne, h0']; rfl
 clear hX hr
 go_enter Tryz.func49, Tryz.ntmps49
 go_wp2_with (fail)
 go_step3
 go_wp2_with (go_at_call 88; refine Hid.out ?_)
 refine hid ?_
 refine (Z3O s l A n c x w XX.out.len XX.out.rd (by have := XX.out.b; omega) hS XX.out.ok hT).mono ?_
 rw [HR.out]
 rintro e w1 ⟨rfl, y1⟩
 have Y1 := hid y1
 clear y1
 go_wp2_with (fail)
 try rw [Exit.noGoto_ret]
 refine bodyPost_ret (v := .tuple #[.int .i64 0, .int .i64 r]) (by simp [results, Tryz.results49, go_sem]) rfl ?_
 exact ⟨rfl, Y1.out⟩
def PosI (a : Bool) (P : Int) (R : List Un) (p at_ : Nat) (n : Int) : Prop :=
 (at_ ≤ p ∧ n + (posU a R (p - at_) : Int) = P + ((p - at_ : Nat) : Int)) ∨ (p < at_ ∧ n = P)
theorem PosI.stop {a : Bool} {P : Int} {R : List Un} {p at_ : Nat} {n : Int} (h : PosI a P R p at_ n) (hs : p < at_ ∨ (at_ = p ∧ a = false)) : n = P := by
 rcases h with ⟨h1, h2⟩ | ⟨_, h2⟩
 ·rcases hs with h3 | ⟨h3, h4⟩
  ·omega
  ·subst h3
   rw [Nat.sub_self, Y4y a R (.inl h4)] at h2
   omega
 ·exact h2
theorem PosI.end_ {a : Bool} {P : Int} {p at_ : Nat} {n : Int} (h : PosI a P [] p at_ n) : n = P := by
 rcases h with ⟨h1, h2⟩ | ⟨_, h2⟩
 ·have e : posU a [] (p - at_) = p - at_ := rfl
  rw [e] at h2; omega
 ·exact h2
theorem PosI.ins {a : Bool} {P : Int} {o : Opd} {R : List Un} {p at_ : Nat} {n : Int} (h : PosI a P (Z0h o ++ R) p at_ n) (ho : isOp o) (hk : o.k = 2) (h1 : ¬ (p < at_)) (h2 : ¬ (at_ = p ∧ a = false)) : PosI a P R p at_ (n + o.r.length) := by
 rcases h with ⟨g1, g2⟩ | ⟨g1, _⟩
 ·rw [Z3S hk, Y2Z a R o.s (p - at_) (by
   by_cases h : p - at_ = 0
   ·right; cases a with
    | true => rfl
    | false => exact absurd ⟨by omega, rfl⟩ h2
   ·left; omega)] at g2
  exact .inl ⟨g1, by omega⟩
 ·exact absurd g1 h1
theorem PosI.del {a : Bool} {P : Int} {o : Opd} {R : List Un} {p at_ : Nat} {n : Int} (h : PosI a P (Z0h o ++ R) p at_ n) (ho : isOp o) (hk : o.k = 3) (h1 : ¬ (p < at_)) : PosI a P R p (at_ + o.n.toNat) (n - min o.n ((p : Int) - (at_ : Int))) := by
 obtain ⟨e, hn⟩ := Z14 ho hk
 have e1 : Z0h o = List.replicate o.n.toNat .del := by unfold Z0h; rw [if_neg (by rw [hk]; decide), if_neg (by rw [hk]; decide)]
 rcases h with ⟨g1, g2⟩ | ⟨g1, _⟩
 ·by_cases hc : o.n.toNat ≤ p - at_
  ·rw [e1, Y0k a R _ _ hc, show p - at_ - o.n.toNat = p - (at_ + o.n.toNat) by omega] at g2
   refine .inl ⟨by omega, ?_⟩
   rw [Int.min_eq_left (by omega)]; omega
  ·rw [e1, Z8w a R _ _ (by omega)] at g2
   refine .inr ⟨by omega, ?_⟩
   rw [Int.min_eq_right (by omega)]; omega
 ·exact absurd g1 h1
theorem PosI.ret {a : Bool} {P : Int} {o : Opd} {R : List Un} {p at_ : Nat} {n : Int} (h : PosI a P (Z0h o ++ R) p at_ n) (ho : isOp o) (hk : o.k = 1) (h1 : ¬ (p < at_)) : PosI a P R p (at_ + o.n.toNat) n := by
 obtain ⟨e, hn⟩ := Z1K ho hk
 have e1 : Z0h o = List.replicate o.n.toNat (.ret o.p) := by unfold Z0h; rw [if_neg (by rw [hk]; decide), if_pos hk]
 rcases h with ⟨g1, g2⟩ | ⟨g1, _⟩
 ·by_cases hc : o.n.toNat ≤ p - at_
  ·rw [e1, Y0l a o.p R _ _ hc, show p - at_ - o.n.toNat = p - (at_ + o.n.toNat) by omega] at g2
   exact .inl ⟨by omega, by omega⟩
  ·rw [e1, Z8x a o.p R _ _ (by omega)] at g2
   exact .inr ⟨by omega, by omega⟩
 ·exact absurd g1 h1
theorem Z8N (s : Nat) (l : List Ky) (A : Option Addr) (n c : Nat) (x : List OpS) (p : Nat) (a : Bool) (w : World) (hX : OpsC w A n c x) (hS : Sch w s l) (hT : Utf8Tabs 1 2 w) (hr : mayO l x = 0) (zx : szN x ≤ 200000) (hp : p ≤ 536870912) :
 Calls Tryz.prog 49 #[.pointer (some ⟨s, 0, none⟩), .slice A n c, .int .i64 (p : Int), .bool a] w fun e w' => e = .returned (.tuple #[.int .i64 (posU a (nf (Z0d (osOf x))) p : Int), .int .i64 0]) ∧ Below w.heap.size w w' := by
 have XX := hid hX
 have HR := hid hr
 obtain ⟨gx, tx1, tx2⟩ := Z02 hr
 have IX := hid (Z0O gx)
 have SX : Hid (∀ o ∈ x, o.o.s.length ≤ 1000000 ∧ o.o.p.length ≤ 1000000) := hid (fun o ho => by have h := Z1l (gx o ho); have := (Z00 h.2.2.2.1).1; have := (Z0U h.2.2.2.2).1; omega)
 have UX : Hid ((Z0d (osOf x)).length ≤ 1200000000 ∧ Z0k (Z0d (osOf x)) ≤ 536870912 ∧ Z0p (Z0d (osOf x)) ≤ 536870912) := hid (by
  obtain ⟨s1, s2⟩ := Z1a x (Z0O gx)
  have h1 := Z1m gx (by have := hX.at_.b; have := hX.at_.len; omega)
  have h2 := Z1A gx (by have := hX.at_.b; have := hX.at_.len; omega)
  have h5 := Z2g (us := Z0d (osOf x))
  omega)
 obtain ⟨P, hP⟩ : ∃ P, posU a (nf (Z0d (osOf x))) p = P := ⟨_, rfl⟩
 have HP := hid hP
 have ZX := hid zx
 rw [hP]
 obtain ⟨p', hp'⟩ : ∃ q : Int, (p : Int) = q := ⟨_, rfl⟩
 have HPQ := hid hp'
 rw [hp']
 clear hX hr gx tx1 tx2 hP zx hp'
 go_enter Tryz.func49, Tryz.ntmps49
 go_wp2_with (fail)
 go_step3
 go_wp2_with (go_at_call 88; refine Hid.out ?_)
 refine hid ?_
 refine (Z3O s l A n c x w XX.out.at_.len XX.out.at_.rd (by have := XX.out.at_.b; omega) hS XX.out.at_.ok hT).mono ?_
 rw [HR.out]
 rintro e w1 ⟨rfl, y1⟩
 have Y1 := hid y1
 clear y1
 have hp0 : ¬ (p' < 0) := by have := HPQ.out; omega
 have hp1 : ¬ ((536870912 : Int) < p') := by have := HPQ.out; omega
 go_wp2_with (fail)
 go_step3
 go_wp2_with (go_at_call 115; refine Hid.out ?_)
 refine hid ?_
 refine (Z4f A n c x w1 XX.out.at_.len (XX.out.at_.rd.ext Y1.out) (by have := ZX.out; omega) SX.out).mono ?_
 rintro e w2 ⟨A2, c2, Z, rfl, hz, oz, pz, y2⟩
 have HZ : Hid (osOf Z = mkU (Z0d (osOf x))) := hid (hz.trans (Y5I (by unfold osOf; intro o ho; obtain ⟨z, hz, rfl⟩ := List.mem_map.1 ho; exact IX.out z hz) (by have := UX.out; omega)))
 have RZ := hid (oz.rd OpS.enc_len)
 have Y2 := hid (Z0a Y1.out y2)
 have IZ : Hid (∀ o ∈ Z, isOp o.o) := hid (Z2N HZ.out)
 have UZ : Hid (Z0d (osOf Z) = nf (Z0d (osOf x))) := hid (Z1v HZ.out)
 have LZ : Hid (Z.length ≤ 1000000 ∧ ∀ o ∈ Z, Z0V o.o ≤ 1073741824) := hid (by
  refine ⟨?_, fun o ho => ?_⟩
  ·have h1 := (Z2c x SX.out).ops.1
   rw [← hz] at h1
   have h2 : (osOf Z).length = Z.length := by unfold osOf; simp
   have := ZX.out
   omega
  ·have h1 := Y5o IZ.out ho
   rw [UZ.out] at h1
   have h2 := Z5C (Z0d (osOf x))
   have h3 := Z4G (Z0d (osOf x))
   have := UX.out
   omega)
 clear hz oz pz y2
 go_wp2_with (fail)
 have RL : Hid (∀ i, (Z0d (osOf (Z.drop i))).length ≤ 1200000000) := hid (fun i => by
  have e : Z0d (osOf Z) = Z0d (osOf (Z.take i)) ++ Z0d (osOf (Z.drop i)) := by
   rw [← Z0G]; unfold osOf; rw [← List.map_append, List.take_append_drop]
  have h := congrArg List.length e
  rw [List.length_append, UZ.out] at h
  have h2 := Z62 (Z0d (osOf x))
  have := UX.out
  omega)
 have PB : Hid (P ≤ 2000000000) := hid (by rw [← HP.out]; have h := Z7a a (nf (Z0d (osOf x))) p; have h2 := Z62 (Z0d (osOf x)); have := UX.out; omega)
 go_loopg [11, 12, 31, 35, 48, 57] Z.length (fun g av nv iv f1 f2 f3 wr => ∃ (i at_ : Nat) (m : Int), i ≤ Z.length ∧ g = Z.length - i ∧ iv = .int .i64 (i : Int) ∧ av = .int .i64 (at_ : Int) ∧ nv = .int .i64 m ∧ Hid (PosI a (P : Int) (Z0d (osOf (Z.drop i))) p at_ m) ∧ Hid (at_ ≤ 3000000000) ∧ Below w2.heap.size w2 wr)
 case atStart => exact ⟨0, 0, p', by omega, rfl, rfl, rfl, rfl, hid (.inl ⟨by omega, by rw [List.drop_zero, UZ.out, Nat.sub_zero, HP.out]; have := HPQ.out; omega⟩), hid (by omega), Below.refl _ _⟩
 case round =>
  obtain ⟨i, at_, m, hi, hg, rfl, rfl, rfl, HI, HA, y⟩ := hrel
  have HG := hid hg
  have Y := hid y
  clear hg y
  have MB : Hid (-3000000000 ≤ m ∧ m ≤ 5000000000) := hid (by
   rcases HI.out with ⟨h1, h2⟩ | ⟨_, h2⟩
   ·have h3 := Z7a a (Z0d (osOf (Z.drop i))) (p - at_)
    have h4 := RL.out i
    have := PB.out
    omega
   ·have := PB.out; omega)
  by_cases hlt : i < Z.length
  ·have hlt' : (i : Int) < (Z.length : Int) := by omega
   obtain ⟨ad, o, rfl, had, hd1, hx1, hc1⟩ := (RZ.out.ext Y.out).el hlt
   have hom := List.mem_of_getElem? hx1
   have IOq := hid (IZ.out o hom)
   have SO := hid (LZ.out.2 o hom)
   have HU : Hid (PosI a (P : Int) (Z0h o.o ++ Z0d (osOf (Z.drop (i + 1)))) p at_ m) := hid (by have h := HI.out; rw [hd1] at h; exact h)
   obtain ⟨⟨k, nn, r, s1, q⟩, Ar, cr, As, cs, Ap, cp⟩ := o
   obtain ⟨z0, z1, z2, z3, z4⟩ := Z0o hc1
   have yb := Z0b wr (.cells #[.int .u8 k, .int .i64 nn, .slice Ar r.length cr, .slice As s1.length cs, .slice Ap q.length cp] 50)
   have hbx := heap_alloc_new wr (.cells #[.int .u8 k, .int .i64 nn, .slice Ar r.length cr, .slice As s1.length cs, .slice Ap q.length cp] 50)
   obtain ⟨q0, q1, q2, q3, q4⟩ := Z0L hbx
   have YB := hid (Z0a Y.out yb)
   have hw2 : IntKind.i64.wrap ((i:Int) + 1) = (i : Int) + 1 := IntWalk.i64_in _ (by have := LZ.out.1; omega)
   clear hc1 hd1 hx1 hom had yb hbx HI
   by_cases h1 : p < at_
   ·have hm := HU.out.stop (.inl h1)
    subst hm
    have hgt : p' < (at_ : Int) := by have := HPQ.out; omega
    go_wp2_with (fail)
    try rw [Exit.noGoto_ret]
    refine bodyPost_ret (v := .tuple #[.int .i64 (P : Int), .int .i64 0]) (by simp [results, Tryz.results49, go_sem]) rfl ?_
    exact ⟨rfl, Z0a Y2.out YB.out⟩
   have hgt : ¬ (p' < (at_ : Int)) := by have := HPQ.out; omega
   by_cases h2 : at_ = p ∧ a = false
   ·have hm := HU.out.stop (.inr h2)
    obtain ⟨h3, h4⟩ := h2
    have heq : (at_ : Int) = p' := by have := HPQ.out; omega
    clear h3
    subst hm h4 heq
    go_wp2_with (fail)
    try rw [Exit.noGoto_ret]
    refine bodyPost_ret (v := .tuple #[.int .i64 (P : Int), .int .i64 0]) (by simp [results, Tryz.results49, go_sem]) rfl ?_
    exact ⟨rfl, Z0a Y2.out YB.out⟩
   by_cases he : (at_ : Int) = p'
   ·have ha : a = true := by
     cases a with
     | true => rfl
     | false => exact absurd ⟨by have := HPQ.out; omega, rfl⟩ h2
    have he' : ((at_ : Int) == p') = true := beq_iff_eq.2 he
    clear he
    subst ha
    by_cases hk2 : k = 2
    ·have HI2 := hid (HU.out.ins IOq.out hk2 h1 h2)
     have SR : Hid (r.length ≤ 1073741824) := hid (by have h := SO.out; unfold Z0V at h; rw [if_pos hk2] at h; have h' : (r.length : Int) ≤ 1073741824 := h; omega)
     obtain ⟨m2, hm2⟩ : ∃ X, m + (r.length : Int) = X := ⟨_, rfl⟩
     have HM2 := hid hm2
     have hwm : IntKind.i64.wrap (m + (r.length : Int)) = m2 := by rw [IntWalk.i64_in _ (by have := MB.out; have := SR.out; omega)]; exact hm2
     have hwm2 : wrap64 (m + (r.length : Int)) = m2 := by rw [Z2K _ (by have := MB.out; have := SR.out; omega)]; exact hm2
     subst hk2
     clear hm2
     go_wp2_with (fail)
     go_roundg (Z.length - (i + 1))
     case measure => have h9 := HG.out; omega
     case rel => exact ⟨i + 1, at_, m2, by clear hw2 hwm hwm2; omega, rfl, rfl, rfl, rfl, hid (by have h := HI2.out; rw [show m + ((⟨2, nn, r, s1, q⟩ : Opd).r.length : Int) = m2 from HM2.out] at h; exact h), HA, YB.out⟩
    by_cases hk3 : k = 3
    ·have HI2 := hid (HU.out.del IOq.out hk3 h1)
     have SN : Hid (1 ≤ nn ∧ nn ≤ 1073741824) := hid (by have h := SO.out; unfold Z0V at h; rw [if_neg hk2] at h; have h' : nn ≤ 1073741824 := h; have h4 : 1 ≤ nn := (Z14 IOq.out hk3).2; exact ⟨h4, h'⟩)
     have AP : Hid (at_ ≤ p) := hid (by omega)
     obtain ⟨D, hD⟩ : ∃ X, p' - (at_ : Int) = X := ⟨_, rfl⟩
     have HD := hid hD
     have hwd : IntKind.i64.wrap (p' - (at_ : Int)) = D := by rw [IntWalk.i64_in _ (by have := HPQ.out; have := AP.out; omega)]; exact hD
     have hwd2 : wrap64 (p' - (at_ : Int)) = D := by rw [Z2K _ (by have := HPQ.out; have := AP.out; omega)]; exact hD
     obtain ⟨M, hM⟩ : ∃ X, min nn D = X := ⟨_, rfl⟩
     have HM := hid hM
     have MM : Hid (0 ≤ M ∧ M ≤ 1073741824) := hid (by have := SN.out; have := HD.out; have := HPQ.out; have := AP.out; clear hwd hwd2; omega)
     obtain ⟨m2, hm2⟩ : ∃ X, m - M = X := ⟨_, rfl⟩
     have HM2 := hid hm2
     have hwm : IntKind.i64.wrap (m - M) = m2 := by rw [IntWalk.i64_in _ (by clear hwd hwd2; have := MB.out; have := MM.out; omega)]; exact hm2
     have hwm2 : wrap64 (m - M) = m2 := by rw [Z2K _ (by clear hwd hwd2 hwm; have := MB.out; have := MM.out; omega)]; exact hm2
     obtain ⟨at2, hat2⟩ : ∃ X : Nat, at_ + nn.toNat = X := ⟨_, rfl⟩
     have HAT := hid hat2
     have AI : Hid ((at_ : Int) + nn = (at2 : Int) ∧ at2 ≤ 3000000000) := hid (by clear hwd hwd2 hwm hwm2; have := SN.out; have := AP.out; have := HPQ.out; omega)
     have hwa : IntKind.i64.wrap ((at_ : Int) + nn) = (at2 : Int) := by rw [AI.out.1]; exact IntWalk.i64_in _ (by clear hwd hwd2 hwm hwm2; have := AI.out.2; omega)
     have hwa2 : wrap64 ((at_ : Int) + nn) = (at2 : Int) := by rw [AI.out.1]; exact Z2K _ (by clear hwd hwd2 hwm hwm2 hwa; have := AI.out.2; omega)
     have hk2' : (k == 2) = false := beq_eq_false_iff_ne.2 hk2
     subst hk3
     clear hD hm2 hat2
     go_wp2_with (fail)
     go_roundg (Z.length - (i + 1))
     case measure => have h9 := HG.out; omega
     case rel => exact ⟨i + 1, at2, m2, by clear hw2 hwm hwm2 hwd hwd2 hwa hwa2; omega, rfl, rfl, rfl, rfl, hid (by have h := HI2.out; rw [show ((p : Nat) : Int) - (at_ : Int) = D by rw [HPQ.out]; exact HD.out] at h; rw [show m - min (⟨3, nn, r, s1, q⟩ : Opd).n D = m2 by show m - min nn D = m2; rw [HM.out]; exact HM2.out] at h; rw [show at_ + (⟨3, nn, r, s1, q⟩ : Opd).n.toNat = at2 from HAT.out] at h; exact h), hid AI.out.2, YB.out⟩
    have hk1 : k = 1 := by rcases Z0x IOq.out with h | h | h; exact absurd h hk2; exact absurd h hk3; exact h
    have HI2 := hid (HU.out.ret IOq.out hk1 h1)
    have SN : Hid (1 ≤ nn ∧ nn ≤ 1073741824) := hid (by have h := SO.out; unfold Z0V at h; rw [if_neg hk2] at h; have h' : nn ≤ 1073741824 := h; have h4 : 1 ≤ nn := (Z1K IOq.out hk1).2; exact ⟨h4, h'⟩)
    have AP : Hid (at_ ≤ p) := hid (by omega)
    obtain ⟨at2, hat2⟩ : ∃ X : Nat, at_ + nn.toNat = X := ⟨_, rfl⟩
    have HAT := hid hat2
    have AI : Hid ((at_ : Int) + nn = (at2 : Int) ∧ at2 ≤ 3000000000) := hid (by have := SN.out; have := AP.out; omega)
    have hwa : IntKind.i64.wrap ((at_ : Int) + nn) = (at2 : Int) := by rw [AI.out.1]; exact IntWalk.i64_in _ (by have := AI.out.2; omega)
    have hwa2 : wrap64 ((at_ : Int) + nn) = (at2 : Int) := by rw [AI.out.1]; exact Z2K _ (by clear hwa; have := AI.out.2; omega)
    subst hk1
    clear hat2
    go_wp2_with (fail)
    go_roundg (Z.length - (i + 1))
    case measure => have h9 := HG.out; omega
    case rel => exact ⟨i + 1, at2, m, by clear hw2 hwa hwa2; omega, rfl, rfl, rfl, rfl, hid (by have h := HI2.out; rw [show at_ + (⟨1, nn, r, s1, q⟩ : Opd).n.toNat = at2 from HAT.out] at h; exact h), hid AI.out.2, YB.out⟩
   have he' : ((at_ : Int) == p') = false := beq_eq_false_iff_ne.2 he
   clear he
   by_cases hk2 : k = 2
   ·have HI2 := hid (HU.out.ins IOq.out hk2 h1 h2)
    have SR : Hid (r.length ≤ 1073741824) := hid (by have h := SO.out; unfold Z0V at h; rw [if_pos hk2] at h; have h' : (r.length : Int) ≤ 1073741824 := h; omega)
    obtain ⟨m2, hm2⟩ : ∃ X, m + (r.length : Int) = X := ⟨_, rfl⟩
    have HM2 := hid hm2
    have hwm : IntKind.i64.wrap (m + (r.length : Int)) = m2 := by rw [IntWalk.i64_in _ (by have := MB.out; have := SR.out; omega)]; exact hm2
    have hwm2 : wrap64 (m + (r.length : Int)) = m2 := by rw [Z2K _ (by have := MB.out; have := SR.out; omega)]; exact hm2
    subst hk2
    clear hm2
    go_wp2_with (fail)
    go_roundg (Z.length - (i + 1))
    case measure => have h9 := HG.out; omega
    case rel => exact ⟨i + 1, at_, m2, by clear hw2 hwm hwm2; omega, rfl, rfl, rfl, rfl, hid (by have h := HI2.out; rw [show m + ((⟨2, nn, r, s1, q⟩ : Opd).r.length : Int) = m2 from HM2.out] at h; exact h), HA, YB.out⟩
   by_cases hk3 : k = 3
   ·have HI2 := hid (HU.out.del IOq.out hk3 h1)
    have SN : Hid (1 ≤ nn ∧ nn ≤ 1073741824) := hid (by have h := SO.out; unfold Z0V at h; rw [if_neg hk2] at h; have h' : nn ≤ 1073741824 := h; have h4 : 1 ≤ nn := (Z14 IOq.out hk3).2; exact ⟨h4, h'⟩)
    have AP : Hid (at_ ≤ p) := hid (by omega)
    obtain ⟨D, hD⟩ : ∃ X, p' - (at_ : Int) = X := ⟨_, rfl⟩
    have HD := hid hD
    have hwd : IntKind.i64.wrap (p' - (at_ : Int)) = D := by rw [IntWalk.i64_in _ (by have := HPQ.out; have := AP.out; omega)]; exact hD
    have hwd2 : wrap64 (p' - (at_ : Int)) = D := by rw [Z2K _ (by have := HPQ.out; have := AP.out; omega)]; exact hD
    obtain ⟨M, hM⟩ : ∃ X, min nn D = X := ⟨_, rfl⟩
    have HM := hid hM
    have MM : Hid (0 ≤ M ∧ M ≤ 1073741824) := hid (by have := SN.out; have := HD.out; have := HPQ.out; have := AP.out; clear hwd hwd2; omega)
    obtain ⟨m2, hm2⟩ : ∃ X, m - M = X := ⟨_, rfl⟩
    have HM2 := hid hm2
    have hwm : IntKind.i64.wrap (m - M) = m2 := by rw [IntWalk.i64_in _ (by clear hwd hwd2; have := MB.out; have := MM.out; omega)]; exact hm2
    have hwm2 : wrap64 (m - M) = m2 := by rw [Z2K _ (by clear hwd hwd2 hwm; have := MB.out; have := MM.out; omega)]; exact hm2
    obtain ⟨at2, hat2⟩ : ∃ X : Nat, at_ + nn.toNat = X := ⟨_, rfl⟩
    have HAT := hid hat2
    have AI : Hid ((at_ : Int) + nn = (at2 : Int) ∧ at2 ≤ 3000000000) := hid (by clear hwd hwd2 hwm hwm2; have := SN.out; have := AP.out; have := HPQ.out; omega)
    have hwa : IntKind.i64.wrap ((at_ : Int) + nn) = (at2 : Int) := by rw [AI.out.1]; exact IntWalk.i64_in _ (by clear hwd hwd2 hwm hwm2; have := AI.out.2; omega)
    have hwa2 : wrap64 ((at_ : Int) + nn) = (at2 : Int) := by rw [AI.out.1]; exact Z2K _ (by clear hwd hwd2 hwm hwm2 hwa; have := AI.out.2; omega)
    have hk2' : (k == 2) = false := beq_eq_false_iff_ne.2 hk2
    subst hk3
    clear hD hm2 hat2
    go_wp2_with (fail)
    go_roundg (Z.length - (i + 1))
    case measure => have h9 := HG.out; omega
    case rel => exact ⟨i + 1, at2, m2, by clear hw2 hwm hwm2 hwd hwd2 hwa hwa2; omega, rfl, rfl, rfl, rfl, hid (by have h := HI2.out; rw [show ((p : Nat) : Int) - (at_ : Int) = D by rw [HPQ.out]; exact HD.out] at h; rw [show m - min (⟨3, nn, r, s1, q⟩ : Opd).n D = m2 by show m - min nn D = m2; rw [HM.out]; exact HM2.out] at h; rw [show at_ + (⟨3, nn, r, s1, q⟩ : Opd).n.toNat = at2 from HAT.out] at h; exact h), hid AI.out.2, YB.out⟩
   have hk1 : k = 1 := by rcases Z0x IOq.out with h | h | h; exact absurd h hk2; exact absurd h hk3; exact h
   have HI2 := hid (HU.out.ret IOq.out hk1 h1)
   have SN : Hid (1 ≤ nn ∧ nn ≤ 1073741824) := hid (by have h := SO.out; unfold Z0V at h; rw [if_neg hk2] at h; have h' : nn ≤ 1073741824 := h; have h4 : 1 ≤ nn := (Z1K IOq.out hk1).2; exact ⟨h4, h'⟩)
   have AP : Hid (at_ ≤ p) := hid (by omega)
   obtain ⟨at2, hat2⟩ : ∃ X : Nat, at_ + nn.toNat = X := ⟨_, rfl⟩
   have HAT := hid hat2
   have AI : Hid ((at_ : Int) + nn = (at2 : Int) ∧ at2 ≤ 3000000000) := hid (by have := SN.out; have := AP.out; omega)
   have hwa : IntKind.i64.wrap ((at_ : Int) + nn) = (at2 : Int) := by rw [AI.out.1]; exact IntWalk.i64_in _ (by have := AI.out.2; omega)
   have hwa2 : wrap64 ((at_ : Int) + nn) = (at2 : Int) := by rw [AI.out.1]; exact Z2K _ (by clear hwa; have := AI.out.2; omega)
   subst hk1
   clear hat2
   go_wp2_with (fail)
   go_roundg (Z.length - (i + 1))
   case measure => have h9 := HG.out; omega
   case rel => exact ⟨i + 1, at2, m, by clear hw2 hwa hwa2; omega, rfl, rfl, rfl, rfl, hid (by have h := HI2.out; rw [show at_ + (⟨1, nn, r, s1, q⟩ : Opd).n.toNat = at2 from HAT.out] at h; exact h), hid AI.out.2, YB.out⟩
  ·have hlt' : ¬ ((i : Int) < (Z.length : Int)) := by omega
   have hR : Z.drop i = [] := List.drop_eq_nil_of_le (by omega)
   have hm : m = (P : Int) := by have h := HI.out; rw [hR] at h; exact h.end_
   subst hm
   go_wp2_with (fail)
   try rw [Exit.noGoto_ret]
   refine bodyPost_ret (v := .tuple #[.int .i64 (P : Int), .int .i64 0]) (by simp [results, Tryz.results49, go_sem]) rfl ?_
   exact ⟨rfl, Z0a Y2.out Y.out⟩
def xA22 (b0 : Nat) : List OpS := [⟨opI [120] [], some ⟨b0, 0, none⟩, 1, none, 0, none, 0⟩]
def xB22 (b0 : Nat) : List OpS := [⟨opI [121] [], some ⟨b0, 0, none⟩, 1, none, 0, none, 0⟩]
theorem Z9A (b : Nat) : mayO kK19 (xA22 b) = 0 := by kernel_rfl
theorem Y3B (b : Nat) : mayO kK19 (xB22 b) = 0 := by kernel_rfl
theorem Y5O (b c : Nat) : mkU (traU true (nf (Z0d (osOf (xA22 b)))) (nf (Z0d (osOf (xB22 c))))) = [opR 1 [], opI [121] []] := by kernel_rfl
theorem Y5P (b c d : Nat) : mkU (traU false (nf (Z0d (osOf (xB22 c)))) (nf (Z0d (osOf (xA22 b))))) = osOf (xA22 d) := by kernel_rfl
theorem Y0J (b c : Nat) : Z0k (traU true (nf (Z0d (osOf (xA22 b)))) (nf (Z0d (osOf (xB22 c))))) = 1 ∧ Z0p (traU true (nf (Z0d (osOf (xA22 b)))) (nf (Z0d (osOf (xB22 c))))) = 2 := ⟨by kernel_rfl, by kernel_rfl⟩
theorem Y0K (b c : Nat) : Z0k (traU false (nf (Z0d (osOf (xB22 c)))) (nf (Z0d (osOf (xA22 b))))) = 0 ∧ Z0p (traU false (nf (Z0d (osOf (xB22 c)))) (nf (Z0d (osOf (xA22 b))))) = 1 := ⟨by kernel_rfl, by kernel_rfl⟩
theorem Y5Q (b : Nat) : posU true (nf (Z0d (osOf (xA22 b)))) 0 = 1 := by kernel_rfl
theorem Z18 (w : World) (hT : Utf8Tabs 1 2 w) :
 Calls Tryz.prog 47 #[] w fun e w' => e = .returned (.bool true) ∧ Below w.heap.size w w' := by
 go_enter Tryz.func47, Tryz.ntmps47
 go_wp2_with (go_at_call 13; refine Hid.out ?_)
 refine hid ?_
 have y := Z0b w (.cells #[.int .i64 1, .bool false, .int .u8 1, .bool false, .bool false, .int .i64 0] 97)
 have rk : RdKy _ _ _ kK19 := Rd.new (enc := Ky.enc) (size := 6) Ky.enc_len w 97 kK19 (cs := #[.int .i64 1, .bool false, .int .u8 1, .bool false, .bool false, .int .i64 0]) rfl rfl
 refine (Y16 (some ⟨w.heap.size, 0, none⟩) 1 1 kK19 _ rfl rk (by omega)).mono ?_
 rintro e v1 ⟨y1, ⟨hm, s, rfl, hS⟩ | ⟨hm, rfl⟩⟩
 rotate_left
 ·have : Z6D kK19 = true := by decide +kernel
  rw [this] at hm; cases hm
 clear hm rk
 replace y := Z0a y y1
 clear y1
 go_wp2_with (go_at_call 48; refine Hid.out ?_)
 refine hid ?_
 have yu1 := Z0b v1 (.cells #[.int .i32 120] 21)
 have riu1 : Z1V _ _ _ [120] := Rd.new (enc := Z3l) (size := 1) Z08 v1 21 [120] (cs := #[.int .i32 120]) rfl rfl
 have zu1 : (v1.alloc (.cells #[.int .i32 120] 21)).heap.size = v1.heap.size + 1 := by simp
 generalize v1.alloc (.cells #[.int .i32 120] 21) = u1 at *
 have yu2 := Z0b u1 (.cells #[.int .u8 2, .int .i64 0, .slice (some ⟨v1.heap.size, 0, none⟩) 1 1, .slice none 0 0, .slice none 0 0] 50)
 have rdxA22 := Y5b u1 (xA22 (v1.heap.size)) (fun z hz => by
  simp only [xA22, List.mem_cons, List.not_mem_nil, or_false] at hz
  subst hz
  exact ⟨riu1, Rd.nil, Rd.nil⟩) (cs := #[.int .u8 2, .int .i64 0, .slice (some ⟨v1.heap.size, 0, none⟩) 1 1, .slice none 0 0, .slice none 0 0]) rfl (b := v1.heap.size + 1) zu1.symm
 have zu2 : (u1.alloc (.cells #[.int .u8 2, .int .i64 0, .slice (some ⟨v1.heap.size, 0, none⟩) 1 1, .slice none 0 0, .slice none 0 0] 50)).heap.size = v1.heap.size + 2 := by rw [World.size_alloc, zu1]
 generalize u1.alloc (.cells #[.int .u8 2, .int .i64 0, .slice (some ⟨v1.heap.size, 0, none⟩) 1 1, .slice none 0 0, .slice none 0 0] 50) = u2 at *
 have atxA22 : OpsC u2 (some ⟨v1.heap.size + 1, 0, none⟩) 1 1 (xA22 (v1.heap.size)) := ⟨⟨rdxA22, rfl, (fun z hz => by
  simp only [xA22, List.mem_cons, List.not_mem_nil, or_false] at hz
  subst hz; exact Y0I _ rfl rfl (by simp [opR, opI, opD])), by omega⟩, Nat.le_refl _, by unfold maxLen; omega, (fun z hz => by
  simp only [xA22, List.mem_cons, List.not_mem_nil, or_false] at hz
  subst hz; (unfold capO maxLen; simp [opR, opI, opD]))⟩
 have yu3 := Z0b u2 (.cells #[.int .i32 121] 21)
 have riu3 : Z1V _ _ _ [121] := Rd.new (enc := Z3l) (size := 1) Z08 u2 21 [121] (cs := #[.int .i32 121]) rfl (b := v1.heap.size + 2) zu2.symm
 have zu3 : (u2.alloc (.cells #[.int .i32 121] 21)).heap.size = v1.heap.size + 3 := by rw [World.size_alloc, zu2]
 generalize u2.alloc (.cells #[.int .i32 121] 21) = u3 at *
 have yu4 := Z0b u3 (.cells #[.int .u8 2, .int .i64 0, .slice (some ⟨v1.heap.size + 2, 0, none⟩) 1 1, .slice none 0 0, .slice none 0 0] 50)
 have rdxB22 := Y5b u3 (xB22 (v1.heap.size + 2)) (fun z hz => by
  simp only [xB22, List.mem_cons, List.not_mem_nil, or_false] at hz
  subst hz
  exact ⟨riu3, Rd.nil, Rd.nil⟩) (cs := #[.int .u8 2, .int .i64 0, .slice (some ⟨v1.heap.size + 2, 0, none⟩) 1 1, .slice none 0 0, .slice none 0 0]) rfl (b := v1.heap.size + 3) zu3.symm
 have zu4 : (u3.alloc (.cells #[.int .u8 2, .int .i64 0, .slice (some ⟨v1.heap.size + 2, 0, none⟩) 1 1, .slice none 0 0, .slice none 0 0] 50)).heap.size = v1.heap.size + 4 := by rw [World.size_alloc, zu3]
 generalize u3.alloc (.cells #[.int .u8 2, .int .i64 0, .slice (some ⟨v1.heap.size + 2, 0, none⟩) 1 1, .slice none 0 0, .slice none 0 0] 50) = u4 at *
 have atxB22 : OpsC u4 (some ⟨v1.heap.size + 3, 0, none⟩) 1 1 (xB22 (v1.heap.size + 2)) := ⟨⟨rdxB22, rfl, (fun z hz => by
  simp only [xB22, List.mem_cons, List.not_mem_nil, or_false] at hz
  subst hz; exact Y0I _ rfl rfl (by simp [opR, opI, opD])), by omega⟩, Nat.le_refl _, by unfold maxLen; omega, (fun z hz => by
  simp only [xB22, List.mem_cons, List.not_mem_nil, or_false] at hz
  subst hz; (unfold capO maxLen; simp [opR, opI, opD]))⟩
 have yq := Z0a y (Z0a yu1 (Z0a yu2 (Z0a yu3 yu4)))
 have Y3 := hid yq
 have HS3 := hid (hS.ext (Z0a yu1 (Z0a yu2 (Z0a yu3 yu4))))
 have AX := hid (atxA22.ext (Z0a yu3 yu4))
 have AY := hid atxB22
 have HT := hid hT
 clear yq hS y yu1 yu2 yu3 yu4 atxA22 atxB22
 refine (Z2x s kK19 (some ⟨v1.heap.size + 1, 0, none⟩) (some ⟨v1.heap.size + 3, 0, none⟩) 1 1 1 1 (xA22 (v1.heap.size)) (xB22 (v1.heap.size + 2)) true _ AX.out AY.out HS3.out (by decide) (Utf8Tabs_below HT.out Y3.out) (Z9A _) (Y3B _) (by show 2 ≤ _; omega) (by show 2 ≤ _; omega) (by rw [(Y0J _ _).1]; omega) (by rw [(Y0J _ _).2]; omega)).mono ?_
 rintro e w5 ⟨A5, c5, x5, rfl, e5, o5, y5⟩
 have O_x5 := hid o5
 have E_x5 := hid (e5.trans (Y5O _ _))
 have AX := hid (AX.out.ext y5)
 have AY := hid (AY.out.ext y5)
 have HS5 := hid (HS3.out.ext y5)
 have Y5 := hid (Z0a Y3.out y5)
 clear y5 o5 e5
 go_wp2_with (go_at_call 48; refine Hid.out ?_)
 refine hid ?_
 refine (Z2x s kK19 _ _ 1 1 1 1 (xB22 (v1.heap.size + 2)) (xA22 (v1.heap.size)) false _ AY.out AX.out HS5.out (by decide) (Utf8Tabs_below HT.out Y5.out) (Y3B _) (Z9A _) (by show 2 ≤ _; omega) (by show 2 ≤ _; omega) (by rw [(Y0K _ _).1]; omega) (by rw [(Y0K _ _).2]; omega)).mono ?_
 rintro e w6 ⟨A6, c6, x6, rfl, e6, o6, y6⟩
 have O_x6 := hid o6
 have E_x6 := hid (e6.trans (Y5P (v1.heap.size) _ (v1.heap.size)))
 have O_x5 := hid (O_x5.out.ext y6)
 have AX := hid (AX.out.ext y6)
 have HS6 := hid (HS5.out.ext y6)
 have Y6 := hid (Z0a Y5.out y6)
 clear y6 o6 e6
 go_wp2_with (go_at_call 49; refine Hid.out ?_)
 refine hid ?_
 refine (Z8N s kK19 _ 1 1 (xA22 (v1.heap.size)) 0 true _ AX.out HS6.out (Utf8Tabs_below HT.out Y6.out) (Z9A _) (by show 2 ≤ _; omega) (by omega)).mono ?_
 rw [Y5Q]
 rintro e w7 ⟨rfl, y7⟩
 have O_x5 := hid (O_x5.out.ext y7)
 have O_x6 := hid (O_x6.out.ext y7)
 have AX := hid (AX.out.ext y7)
 have Y7 := hid (Z0a Y6.out y7)
 clear y7
 have L5 : x5.length = 2 := by have h := congrArg List.length E_x5.out; unfold osOf at h; simpa using h
 rw [L5] at O_x5 ⊢
 cases x5 with
 | nil => simp at L5
 | cons x0 xt =>
   have hx0 : x0.o = opR 1 [] := by have h := E_x5.out; unfold osOf at h; rw [List.map_cons] at h; exact (List.cons.inj h).1
   obtain ⟨ad, e0, _, hc0⟩ := O_x5.out.first
   subst e0
   obtain ⟨o0, Ar0, cr0, As0, cs0, Ap0, cp0⟩ := x0
   simp only at hx0
   subst hx0
   obtain ⟨z0, z1, z2, z3, z4⟩ := Z0o hc0
   clear hc0
   go_wp2_with (go_at_call 22; refine Hid.out ?_)
   refine hid ?_
   refine (Z3k O_x6.out.at_ AX.out.at_ (decide_eq_true E_x6.out)).mono ?_
   rintro e w8 ⟨rfl, y8⟩
   have Y8 := hid (Z0a Y7.out y8)
   clear y8 z0 z1 z2 z3 z4
   go_wp2_with (fail)
   go_ret
   exact ⟨rfl, Y8.out⟩
def Y4P (n : Nat) (l : List ClS) (lim : Int) (w : World) (e : Ending) (w' : World) : Prop :=
 ∃ b : Bool, e = .returned (.bool b) ∧ (b = false → (n : Int) ≤ lim ∧ ∀ x ∈ l, x.c.s.length ≤ 64) ∧ ∃ d, w' = w.drewN d
theorem Z9B (A : Option Addr) (n c : Nat) (l : List ClS) (lim : Int) (w : World) (hn : n = l.length) (h : RdCl w w.heap.size A l) (hb : n ≤ 140737488355328) (hs : ∀ x ∈ l, x.c.s.length ≤ 140737488355328) :
 Calls Tryz.prog 11 #[.slice A n c, .int .i64 lim] w (Y4P n l lim w) := by
 have N := hid hn
 have HR := hid h
 have HS := hid hs
 clear hn h hs
 by_cases hl : lim < (n : Int)
 ·go_enter Tryz.func11, Tryz.ntmps11
  go_wp2_with (fail)
  go_ret
  exact ⟨true, rfl, (by intro h; cases h), 0, rfl⟩
 have hle : (n : Int) ≤ lim := by omega
 go_enter Tryz.func11, Tryz.ntmps11
 go_wp2_with (fail)
 go_loopg [5, 6] n (fun g av iv wr => ∃ (m : Nat) (a : Int), m ≤ n ∧ g = n - m ∧ av = .int .i64 a ∧ iv = .int .i64 (m : Int) ∧ (∃ d, wr = w.drewN d) ∧ Hid (∀ x ∈ l.take m, x.c.s.length ≤ 64))
 case atStart => exact ⟨0, 0, by omega, rfl, rfl, rfl, ⟨0, rfl⟩, hid (by simp)⟩
 case round =>
  obtain ⟨m, a, hm, hg, rfl, rfl, ⟨d, rfl⟩, HI⟩ := hrel
  have HG := hid hg
  clear hg
  by_cases hlt : m < n
  ·have hl1 : m < l.length := by have := N.out; omega
   obtain ⟨ad, o, had0, had, hd1, hx1, hc0⟩ := HR.out.1.el hl1
   subst had0
   have hmem := List.mem_of_getElem? hx1
   have g2 := HR.out.2 o hmem
   have hso := HS.out o hmem
   have HT : Hid (l.take (m + 1) = l.take m ++ [o]) := hid (by rw [List.take_add_one, hx1]; rfl)
   obtain ⟨⟨r, s⟩, As, cs⟩ := o
   simp only at g2 hso
   obtain ⟨r0, r1⟩ := Z03 hc0
   obtain ⟨ns, hns⟩ : ∃ X, s.length = X := ⟨_, rfl⟩
   have NS := hid hns
   rw [hns] at r1 hso
   have hw2 : IntKind.i64.wrap ((m:Int) + 1) = (m : Int) + 1 := IntWalk.i64_in _ (by omega)
   clear hc0 hd1 hx1 hmem hns hl1
   by_cases h64 : (64 : Int) < (ns : Int)
   ·go_wp2_with (fail)
    go_ret
    exact ⟨true, rfl, (by intro h; cases h), _, rfl⟩
   ·have h64' : Hid (s.length ≤ 64) := hid (by rw [NS.out]; omega)
    go_wp2_with (fail)
    go_loopg [5, 7] ns (fun g av iv wi => ∃ (j : Nat) (b : Int), j ≤ ns ∧ g = ns - j ∧ av = .int .i64 b ∧ iv = .int .i64 (j : Int) ∧ ∃ d, wi = w.drewN d)
    case atStart => exact ⟨0, _, by omega, rfl, rfl, rfl, _, rfl⟩
    case round =>
     obtain ⟨j, b, hj, hg2, rfl, rfl, d2, rfl⟩ := hrel
     have HG2 := hid hg2
     clear hg2
     by_cases hls : j < ns
     ·obtain ⟨ad2, z, e2, _, _, _, hz⟩ := g2.el (i := j) (by have := NS.out; omega)
      subst e2
      obtain ⟨z1, z2, z3, z4, z5⟩ := z
      obtain ⟨s0, s1, s2, s3, s4⟩ := Z0P hz
      have hw3 : IntKind.i64.wrap ((j:Int) + 1) = (j : Int) + 1 := IntWalk.i64_in _ (by omega)
      clear hz
      go_wp2_with (fail)
      go_roundg (ns - (j + 1))
      case measure => have := HG2.out; omega
      case rel => exact ⟨j + 1, _, by omega, rfl, rfl, by go_num, _, rfl⟩
     ·go_wp2_with (fail)
      go_roundg (n - (m + 1))
      case measure => have := HG.out; omega
      case rel =>
       refine ⟨m + 1, _, by omega, rfl, rfl, by go_num, ⟨_, rfl⟩, hid ?_⟩
       intro y hy
       rw [HT.out] at hy
       rcases List.mem_append.1 hy with hy | hy
       ·exact HI.out y hy
       ·simp at hy; subst hy; exact h64'.out
  ·have hmn : l.take m = l := List.take_of_length_le (by have := N.out; omega)
   have HI2 := HI.out
   rw [hmn] at HI2
   have H2 := hid HI2
   clear HI2 hmn
   go_wp2_with (fail)
   go_ret
   exact ⟨_, rfl, fun _ => ⟨hle, H2.out⟩, _, rfl⟩
def Y5R (n0 n1 : Nat) (d : List ClS) (L : List SX) (w : World) (e : Ending) (w' : World) : Prop :=
 ∃ b : Bool, e = .returned (.bool b) ∧ (b = false → n0 ≤ 64 ∧ n1 ≤ 400 ∧ (∀ c ∈ d, c.c.s.length ≤ 64) ∧ sumX L ≤ 5000) ∧ ∃ d, w' = w.drewN d
theorem Z9C (A0 A1 A2 : Option Addr) (n0 c0 n1 c1 n c : Nat) (d : List ClS) (L : List SX) (w : World) (hn : n = L.length) (h : Rd SX.enc 1 w w.heap.size A2 L) (hb : n ≤ 1000) (h0 : n0 ≤ 140737488355328)
 (hs : ∀ s ∈ L, RdOp w w.heap.size s.A s.l ∧ s.l.length ≤ 140737488355328) (hz : sumX L ≤ 9223372036854775807) (hz1 : ∀ s ∈ L, szX s.l ≤ 4611686018427387904)
 (hn1 : n1 = d.length) (h1 : RdCl w w.heap.size A1 d) (b1 : n1 ≤ 140737488355328) (hd : ∀ y ∈ d, y.c.s.length ≤ 140737488355328) :
 Calls Tryz.prog 46 #[.slice A0 n0 c0, .slice A1 n1 c1, .slice A2 n c] w (Y5R n0 n1 d L w) := by
 have N := hid hn
 have HS := hid hs
 have HZ := hid hz
 have HZ1 := hid hz1
 have N1 := hid hn1
 have H1 := hid h1
 have HD := hid hd
 clear hn hs hz hz1 hn1 h1 hd
 go_enter Tryz.func46, Tryz.ntmps46
 go_wp2_with (fail)
 go_loopg [7, 11] n (fun g av iv wr => ∃ (m a : Nat), m ≤ n ∧ g = n - m ∧ a = sumX (L.take m) ∧ av = .int .i64 (a : Int) ∧ iv = .int .i64 (m : Int) ∧ ∃ d, wr = w.drewN d)
 case atStart => exact ⟨0, 0, by omega, rfl, rfl, rfl, rfl, 0, rfl⟩
 case round =>
  obtain ⟨m, a, hm, hg, ha, rfl, rfl, d3, rfl⟩ := hrel
  have HG := hid hg
  have HA := hid ha
  clear hg ha
  by_cases hlt : m < n
  ·obtain ⟨ad, z, had0, had, _, hx1, hc0⟩ := h.el (i := m) (by have := N.out; omega)
   subst had0
   obtain ⟨f1, f2⟩ := HS.out z (List.mem_of_getElem? hx1)
   have TK : Hid (sumX (L.take (m + 1)) = a + szX z.l) := hid (by rw [HA.out]; exact Z4B (fun s : SX => szX s.l) hx1)
   have TB : Hid (a + szX z.l ≤ 9223372036854775807) := hid (by rw [← TK.out]; exact Nat.le_trans (Z2v (fun s : SX => szX s.l) L (m + 1)) HZ.out)
   have Z1 := hid (HZ1.out z (List.mem_of_getElem? hx1))
   obtain ⟨A3, c3, x⟩ := z
   simp only at f1 f2 TK TB Z1
   have q0 : _ = some (Value.slice A3 x.length c3) := hc0 0 _ rfl
   rw [Z0v, Nat.mul_one] at q0
   obtain ⟨n3, hn3⟩ : ∃ n3, n3 = x.length := ⟨_, rfl⟩
   rw [← hn3] at q0 f2
   have N3 := hid hn3
   have hw2 : IntKind.i64.wrap ((m:Int) + 1) = (m : Int) + 1 := IntWalk.i64_in _ (by omega)
   clear hn3 hx1 hc0
   go_wp2_with (go_at_call 87; refine Hid.out ?_)
   refine hid ?_
   refine (Y1k A3 n3 c3 x (w.drewN d3) N3.out ⟨f1.1.drewN _, fun q hq => ⟨(f1.2 q hq).1.drewN _, (f1.2 q hq).2.1.drewN _, (f1.2 q hq).2.2.drewN _⟩⟩ f2 (by have := Z1.out; omega)).mono ?_
   obtain ⟨sz, hsz⟩ : ∃ X, szX x = X := ⟨_, rfl⟩
   clear Z1
   rw [hsz] at TK TB ⊢
   rintro e w2 ⟨rfl, d2, rfl⟩
   have hw4 : IntKind.i64.wrap ((a:Int) + (sz : Int)) = (a : Int) + sz := IntWalk.i64_in _ (by have := TB.out; omega)
   clear hsz
   go_wp2_with (fail)
   go_roundg (n - (m + 1))
   case measure => have := HG.out; omega
   case rel => exact ⟨m + 1, a + sz, by omega, rfl, TK.out.symm, by go_num, by go_num, _, (by first | rfl | exact World.drewN_drewN _ _ _)⟩
  ·have HA9 : Hid (a = sumX L) := hid (by have := HA.out; rwa [List.take_of_length_le (by have := N.out; omega)] at this)
   have AB : a ≤ 9223372036854775807 := by rw [HA9.out]; exact HZ.out
   by_cases h64 : (64 : Int) < (n0 : Int)
   ·go_wp2_with (fail)
    go_ret
    exact ⟨true, rfl, (by intro h; cases h), _, rfl⟩
   ·go_wp2_with (go_at_call 11; refine Hid.out ?_)
    refine hid ?_
    refine (Z9B A1 n1 c1 d 400 _ N1.out ⟨H1.out.1.drewN _, fun x hx => (H1.out.2 x hx).drewN _⟩ b1 HD.out).mono ?_
    rintro e w1 ⟨g1, rfl, hg1, x1, rfl⟩
    cases g1 with
    | true =>
      clear hg1
      go_wp2_with (fail)
      go_ret
      exact ⟨true, rfl, (by intro h; cases h), _, (by first | exact World.drewN_drewN _ _ _ | rfl)⟩
    | false =>
      have h2 := hg1 rfl
      have H2 := hid h2
      clear hg1 h2
      go_wp2_with (fail)
      go_ret
      exact ⟨decide ((5000 : Int) < (a : Int)), rfl, fun h5 => ⟨by omega, by have := H2.out.1; omega, H2.out.2, by have := of_decide_eq_false h5; rw [← HA9.out]; omega⟩, _, (by first | exact World.drewN_drewN _ _ _ | rfl)⟩
end Go.Proofs.YtfnkjcodcoehcaaGreatDoor
