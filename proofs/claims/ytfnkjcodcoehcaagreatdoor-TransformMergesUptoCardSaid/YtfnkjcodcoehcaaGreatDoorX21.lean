/- Merged texts. -/
import Derived.Test.YtfnkjcodcoehcaaGreatDoorX20
import Derived.Deep.RegionHeldLaw
namespace Go.Proofs.YtfnkjcodcoehcaaGreatDoor
set_option maxRecDepth 100000
set_option maxHeartbeats 4000000
set_option linter.unusedVariables false
set_option linter.unusedSimpArgs false
def mkU (us : List Un) : List Opd := enc (nf us)
theorem Y0c (u : Un) : isOp (op1 u) := by
 cases u with
 | ins r s => exact .inl ⟨rfl, rfl, by simp [op1, opI], rfl⟩
 | del => exact .inr (.inl ⟨rfl, by show (1 : Int) ≤ 1; decide, rfl, rfl, rfl⟩)
 | ret p => exact .inr (.inr ⟨rfl, by show (1 : Int) ≤ 1; decide, rfl, rfl⟩)
theorem Z61 (u : Un) : Z0h (op1 u) = [u] := by cases u <;> rfl
theorem Y5y {u : Un} {b : Opd} (hb : isOp b) (h : Z0A (op1 u) b = true) : isOp (into u b) ∧ Z0h (into u b) = u :: Z0h b ∧ ∀ c, Z0A (into u b) c = Z0A b c := by
 obtain ⟨k, n, r, s, p⟩ := b
 rcases Z0x hb with hk | hk | hk
 ·obtain ⟨e, hr⟩ := Z13 hb hk
  simp only at hk hr e
  subst hk
  rw [e] at h ⊢
  cases u with
  | del => simp [Z0A, op1, opI, opD] at h
  | ret q => simp [Z0A, op1, opI, opR] at h
  | ins r2 s2 =>
    have hs : s2 = s := by simp [Z0A, op1, opI] at h; exact of_decide_eq_true h
    subst hs
    exact ⟨.inl ⟨rfl, rfl, by simp [into, opI], rfl⟩, rfl, fun c => rfl⟩
 ·obtain ⟨e, hn⟩ := Z14 hb hk
  simp only at hk hn e
  subst hk
  rw [e] at h ⊢
  cases u with
  | ins r2 s2 => simp [Z0A, op1, opI, opD] at h
  | ret q => simp [Z0A, op1, opD, opR] at h
  | del =>
    refine ⟨.inr (.inl ⟨rfl, by show 1 ≤ n + 1; omega, rfl, rfl, rfl⟩), ?_, fun c => rfl⟩
    show List.replicate (n + 1).toNat Un.del = .del :: List.replicate n.toNat .del
    rw [show (n + 1).toNat = n.toNat + 1 by omega, List.replicate_succ]
 ·obtain ⟨e, hn⟩ := Z1K hb hk
  simp only at hk hn e
  subst hk
  rw [e] at h ⊢
  cases u with
  | ins r2 s2 => simp [Z0A, op1, opI, opR] at h
  | del => simp [Z0A, op1, opD, opR] at h
  | ret q =>
    have hq : q = p := by simp [Z0A, op1, opR] at h; exact of_decide_eq_true h
    subst hq
    refine ⟨.inr (.inr ⟨rfl, by show 1 ≤ n + 1; omega, rfl, rfl⟩), ?_, fun c => rfl⟩
    show List.replicate (n + 1).toNat (Un.ret q) = .ret q :: List.replicate n.toNat (.ret q)
    rw [show (n + 1).toNat = n.toNat + 1 by omega, List.replicate_succ]
theorem Y4r (u : Un) {x : List Opd} (h : Z1J x) : Z1J (Z3u u x) ∧ Z0d (Z3u u x) = u :: Z0d x := by
 cases x with
 | nil => exact ⟨⟨Y0c u, trivial, trivial⟩, by show Z0d [op1 u] = _; rw [Z1j, Z61]; rfl⟩
 | cons b t =>
   obtain ⟨h1, h2, h3⟩ := h
   have ec : Z3u u (b :: t) = if Z0A (op1 u) b = true then into u b :: t else op1 u :: b :: t := rfl
   rw [ec]
   by_cases hm : Z0A (op1 u) b = true
   ·rw [if_pos hm]
    obtain ⟨g1, g2, g3⟩ := Y5y h1 hm
    refine ⟨⟨g1, ?_, h3⟩, by rw [Z1w, g2, Z1w]; rfl⟩
    cases t with
    | nil => trivial
    | cons c t => show Z0A (into u b) c = false; rw [g3]; exact h2
   ·rw [if_neg hm]
    exact ⟨⟨Y0c u, by simpa using hm, h1, h2, h3⟩, by rw [Z1w, Z61]; rfl⟩
theorem Y42 : ∀ us : List Un, Z1J (enc us) ∧ Z0d (enc us) = us
 | [] => ⟨trivial, rfl⟩
 | u :: us => by
   obtain ⟨h1, h2⟩ := Y42 us
   obtain ⟨g1, g2⟩ := Y4r u h1
   exact ⟨g1, by show Z0d (Z3u u (enc us)) = _; rw [g2, h2]⟩
theorem Y0d (us : List Un) : Z1J (mkU us) ∧ Z0d (mkU us) = nf us := Y42 (nf us)
theorem Z7H {m : Mk} {us : List Un} (h : Told m us) : Z1z m = mkU us := Y1S h.ops.1 (Y0d us).1 (by rw [h.ops.2, (Y0d us).2])
theorem Z2N {x : List OpS} {us : List Un} (hx : osOf x = mkU us) : ∀ o ∈ x, isOp o.o := fun o ho => Z48 (by rw [hx]; exact (Y0d us).1 : Z1J (osOf x)) o.o (by unfold osOf; exact List.mem_map_of_mem ho)
theorem Z1v {x : List OpS} {us : List Un} (hx : osOf x = mkU us) : Z0d (osOf x) = nf us := by rw [hx]; exact (Y0d us).2
theorem Z9i {l : List Ky} {x : List OpS} {us : List Un} {d : List Cl} {most : Nat} (hx : osOf x = mkU us) (hb : x.length ≤ 1048576) (hmo : most ≤ 4294967296) (hd : mayD l d = 0) (hf : FitU l us d.length most) :
 Z0F l x d (most : Int) = 0 ∧ app l (Z0d (osOf x)) d = app l us d := by
 have h2 := Z1v hx
 refine ⟨Z3d hd (Y05 hb hmo (Z2N hx) (by rw [h2]; exact Z4y hf)), ?_⟩
 rw [h2, Z6T]
theorem Y6l (us : List Un) : ∀ (I : List Un) (g : Nat), (cn us I g).length = us.length + I.length + g := by
 induction us with
 | nil => intro I g; simp [cn]
 | cons u us ih =>
   intro I g
   cases u with
   | ins r s => rw [cn, ih]; simp; omega
   | del => rw [cn, ih]; simp; omega
   | ret p => rw [cn, List.length_append, List.length_append, List.length_cons, ih]; simp; omega
theorem Z62 (us : List Un) : (nf us).length ≤ us.length := by
 have h1 : (Z2i us).length = us.length := by unfold Z2i; rw [Y6l]; rfl
 obtain ⟨k, hk⟩ := Z4x (Z2i us)
 have := congrArg List.length hk
 rw [List.length_append] at this
 show (trim (Z2i us)).length ≤ _
 omega
open Go.RowKit
open Go.Lib (hid)
def capO (o : OpS) : Prop := (o.o.r.length ≤ o.cr ∧ o.cr ≤ maxLen) ∧ (o.o.s.length ≤ o.cs ∧ o.cs ≤ maxLen) ∧ (o.o.p.length ≤ o.cp ∧ o.cp ≤ maxLen)
theorem Z3f {α : Type} {enc : α → List Value} {size : Nat} {e : TypeId} {w : World} {B : Nat} {A : Option Addr} {n c : Nat} {l : List α} (h : Ow enc size e w B (.slice A n c) l) : l.length ≤ c ∧ c ≤ maxLen := by
 obtain ⟨A', c', hv, h1, h2⟩ := h.form
 injection hv with _ _ hcc
 subst hcc
 exact ⟨h1, h2⟩
theorem Z7I {w : World} {B g : Nat} {x : OpS} (h : PartN w B g x) : capO x := ⟨Z3f h.1.1, Z3f h.2.1.1, Z3f h.2.2.1⟩
structure OpsC (w : World) (A : Option Addr) (n c : Nat) (x : List OpS) : Prop where
 at_ : OpsAt w A n x
 cap : n ≤ c
 cm : c ≤ maxLen
 caps : ∀ o ∈ x, capO o
theorem OpsC.ext {w w' : World} {A : Option Addr} {n c : Nat} {x : List OpS} (h : OpsC w A n c x) (y : Below w.heap.size w w') : OpsC w' A n c x := ⟨h.at_.ext y, h.cap, h.cm, h.caps⟩
def Y5z (o : List Opd) (w : World) (e : Ending) (w' : World) : Prop :=
 ∃ A c x, e = .returned (.tuple #[.slice A x.length c, .int .i64 0]) ∧ osOf x = o ∧ OpsC w' A x.length c x ∧ Below w.heap.size w w'
def Y6m (o : List Opd) (w : World) (e : Ending) (w' : World) : Prop :=
 ∃ A c x, e = .returned (.slice A x.length c) ∧ osOf x = o ∧ OpsC w' A x.length c x ∧ Below w.heap.size w w'
theorem Y2H {w w1 w2 : World} (h : Below w.heap.size w w1) (hg : w1.grownBy w2 none) : Below w.heap.size w w2 := h.grown hg h.size (fun k hk => by cases hk)
section
variable {ops : Array Oper} {rest : List Oper} {o : Oper} {a : Act} {Q : Exit → Act → World → Prop} {w : World} {base : Nat} {v : Value} {K : Act → World → Prop} {E : Prop}
theorem Z49 {l m : List ClS} (hgd : o.guard = none) (s x : Operand)
 (ho : o.op = .call { callee := .builtin .append, args := #[s, x], argTypes := #[23, 23] })
 (hsv : a.eval s = v) (hown : OwCs w base v l) (B : Nat) (A : Option Addr) (c n : Nat) (hx : a.eval x = .slice A n c) (hn : n = m.length) (hr : RdCs w B A m)
 (hb : l.length + m.length ≤ 1000000000000) (hbase : base ≤ w.heap.size)
 (h : ∀ v' w', OwCs w' base v' (l ++ m) → w.grownBy w' (wb v) → (v' = v ∧ w' = w ∨ wb v' = wb v ∨ wb v' = some w.heap.size) → K (a.put o.dst v') w') :
 if Region.wanted o (yielded ops a.tmps) = true then Oper.wp Tryz.prog o a w K Q else E := by
 have hw : Region.wanted o (yielded ops a.tmps) = true := by simp [Region.wanted, hgd]
 rw [if_pos hw]
 obtain ⟨i0, hi0, hz0, hz1, hz2⟩ := info_parts Tryz.infoCl
 exact Z6J s x _ ho i0 _ 32 Tryz.slCl hi0 hz0 hz1 hz2 rfl (by omega) ClS.enc_len ClS.enc_one hsv hown B A c n hx hn hr (by simp only [maxLen]; omega) (by omega) hbase h
end
theorem Z6l {w wr w6 wc w9 : World} {ov v9 : Value} {D : List ClS} {x' : ClS} {O : Obj} (y : Below w.heap.size w wr)
 (how : OwCs wr w.heap.size ov D) (hp : ∀ x ∈ D, PartC wr w.heap.size ov x)
 (o6 : OwAt w6 wr.heap.size (.slice x'.As x'.c.s.length x'.cs) x'.c.s) (z6 : Below w6.heap.size w6 wc) (yw : Below wr.heap.size wr wc)
 (g9 : (wc.alloc O).grownBy w9 (wb ov)) (hv : v9 = ov ∧ w9 = wc.alloc O ∨ wb v9 = wb ov ∨ wb v9 = some (wc.alloc O).heap.size) :
 (∀ x ∈ D ++ [x'], PartC w9 w.heap.size v9 x) ∧ Below w.heap.size w w9 := by
 have s0 := y.size
 have ya := Z0a yw (Z0b wc O)
 refine ⟨fun x hx => ?_, ?_⟩
 ·rcases List.mem_append.1 hx with hx | hx
  ·exact ((hp x hx).below ya).app g9 hv
  ·rw [List.mem_singleton] at hx
   subst hx
   have p : PartC (wc.alloc O) w.heap.size ov x := ⟨((o6.below z6 (Nat.le_refl _)).below (Z0b wc O) (Nat.le_refl _)).base_le (by omega), fun k hk he => by
    have h1 := (o6.wb_lt k hk).1
    have h2 := (how.wb_lt k he).2
    omega⟩
   exact p.app g9 hv
 ·have yy := Z0a y ya
  exact yy.grown g9 yy.size (fun k hk => (how.wb_lt k hk).1)
theorem Z63 (A : Option Addr) (n c : Nat) (l : List ClS) (w : World) (hn : n = l.length) (h : RdCl w w.heap.size A l) (hb : n ≤ 100000000) (hs : ∀ x ∈ l, x.c.s.length ≤ 100000000) :
 Calls Tryz.prog 15 #[.slice A n c] w (NewCls (Z0e l) w) := by
 have N := hid hn
 have HS := hid hs
 have HX := hid h
 clear hn hs h
 go_enter Tryz.func15, Tryz.ntmps15
 go_wp2_with (fail)
 go_loopg [3, 4] n (fun g ov iv wr => ∃ (m : Nat) (D : List ClS), m ≤ n ∧ g = n - m ∧ iv = .int .i64 (m : Int) ∧ Z0e D = Z0e (l.take m) ∧ D.length = m ∧ OwCs wr w.heap.size ov D ∧ Hid (∀ x ∈ D, PartC wr w.heap.size ov x) ∧ Below w.heap.size w wr)
 case atStart => exact ⟨0, [], by omega, rfl, rfl, rfl, rfl, Ow.nil _ _, hid (fun x hx => by cases hx), Below.refl _ _⟩
 case round =>
  obtain ⟨m, D, hm, hg, rfl, hDo, hD, hown, HP, y⟩ := hrel
  have HG := hid hg
  clear hg
  by_cases hlt : m < n
  ·have hl1 : m < l.length := by have := N.out; omega
   have hlt' : (m : Int) < (n : Int) := by omega
   obtain ⟨ad, o, had0, hd0, hd1, hx1, hc0⟩ := (HX.out.ext y).1.el hl1
   subst had0
   have HM := hid hx1
   have g2 := (HX.out.ext y).2 o (List.mem_of_getElem? hx1)
   have v4 := HS.out o (List.mem_of_getElem? hx1)
   have HAD : Hid (ad.block < w.heap.size) := hid (by
    obtain ⟨ad', e', hb', _⟩ := HX.out.1 (by omega)
    injection e' with e'; subst e'; exact hb')
   obtain ⟨⟨r, s⟩, As, cs⟩ := o
   simp only at g2 v4
   have HC := hid hc0
   obtain ⟨r0, r1⟩ := Z03 HC.out
   have G2 := hid g2
   have hw2 : IntKind.i64.wrap ((m:Int) + 1) = (m : Int) + 1 := IntWalk.i64_in _ (by omega)
   clear hc0 hd1 hx1 g2 hd0
   have HOW := hid hown
   go_wp2_with (fail)
   have opb : ∀ {W : World}, Below wr.heap.size wr W → W.cell? (ad.add (m * 2)) = some (.int .i32 r) ∧ W.cell? { block := (ad.add (m * 2)).block, off := (ad.add (m * 2)).off + 1 } = some (.slice As s.length cs) := fun {W} yw =>
    Z03 (HC.out.keep (w' := W) fun q hq => yw.cell (by rw [hq, Z0q]; have := HAD.out; have := y.size; omega))
   have YW : Hid (Below wr.heap.size wr wr.drew) := hid (Z0j (Below.refl _ _))
   have YB : Hid (Below wr.heap.size wr wr) := hid (Below.refl _ _)
   have Cw := opb YB.out
   go_region_held_law (fun w' => w'.cell? (ad.add (m * 2)) = some (.int .i32 r) ∧ w'.cell? { block := (ad.add (m * 2)).block, off := (ad.add (m * 2)).off + 1 } = some (.slice As s.length cs)) (first | exact C9 | exact opb (by repeat (first | exact YW.out | exact YB.out | refine Z0a ?_ (Z0b _ _) | refine Z0j ?_))) (first
    | (refine Z6k (m := s) rfl (.tmp 17) (.tmp 22) (by rfl) ⟨_, rfl⟩ wr.heap.size _ As cs s.length (by rfl) rfl (G2.out.ext (by repeat (first | exact YW.out | exact YB.out | refine Z0a ?_ (Z0b _ _) | refine Z0j ?_))) (by omega) (by exact ((by repeat (first | exact YW.out | exact YB.out | refine Z0a ?_ (Z0b _ _) | refine Z0j ?_)) : Below wr.heap.size wr _).size) ?_
       intro vAt w6 hoAt hgrAt
       obtain ⟨A6, k6, hv6, _, _⟩ := hoAt.form
       subst hv6
       have OAt := hid hoAt
       have YW : Hid (Below wr.heap.size wr w6) := hid (Y2H (by repeat (first | exact YW.out | exact YB.out | refine Z0a ?_ (Z0b _ _) | refine Z0j ?_)) hgrAt)
       have CAt := opb YW.out
       clear hoAt hgrAt)
    | (refine Z49 (l := D) (m := [(⟨⟨r, s⟩, A6, k6⟩ : ClS)]) rfl (.tmp 11) (.tmp 25) (by rfl) (by rfl) (HOW.out.below (Z0a YW.out (Z0b _ _)) (Nat.le_refl _)) _ _ 1 1 (by rfl) rfl (Z1E (enc := ClS.enc) (size := 2) w6 _ (⟨⟨r, s⟩, A6, k6⟩ : ClS) rfl) (by simp only [List.length_singleton]; omega) (Nat.le_trans y.size (Z0a YW.out (Z0b _ _)).size) ?_
       intro v9 w9 ho9 hgr9 hw9
       have O9 := hid ho9
       have HW9 := hid hw9
       have HG9 := hid hgr9
       have Y9 : Hid (Below w.heap.size w w9) := hid (Z0K (y.trans ((Z0a YW.out (Z0b _ _)).mono y.size)) (Nat.le_trans y.size (Z0a YW.out (Z0b _ _)).size) (HOW.out.below (Z0a YW.out (Z0b _ _)) (Nat.le_refl _)) (Nat.le_refl _) hgr9)
       have C9 : w9.cell? (ad.add (m * 2)) = some (.int .i32 r) ∧ w9.cell? { block := (ad.add (m * 2)).block, off := (ad.add (m * 2)).off + 1 } = some (.slice As s.length cs) := Z03 (HC.out.keep (w' := w9) fun q hq => (Y9.out.cell (by rw [hq, Z0q]; exact HAD.out)).trans (y.cell (by rw [hq, Z0q]; exact HAD.out)).symm)
       clear ho9 hgr9 hw9))
   all_goals
    have r := Z6l (x' := ⟨⟨r, s⟩, A6, k6⟩) y HOW.out HP.out OAt.out (Below.refl _ _) YW.out HG9.out HW9.out
    have R1 := hid r.1
    have R2 := hid r.2
    clear r
    go_wp2_with (fail)
    go_roundg (n - (m + 1))
   all_goals first
    | (have := HG.out; omega)
    | (refine ⟨m + 1, D ++ [⟨⟨r, s⟩, A6, k6⟩], by omega, rfl, by go_num, ?_, by simp [hD], O9.out, R1, R2.out⟩
       rw [List.take_add_one, HM.out]
       unfold Z0e at hDo ⊢
       rw [List.map_append, List.map_append, hDo]; rfl)
  ·have hml : m = n := by omega
   subst hml
   have hlt' : ¬ (m : Int) < (m : Int) := by omega
   have HO := hid hown
   have HD := hid hD
   have HDO := hid hDo
   clear hown hD hDo
   obtain ⟨A1, k1, hv1, _, _⟩ := HO.out.form
   subst hv1
   go_wp2_with (fail)
   go_ret
   exact ⟨A1, k1, D, rfl, by rw [HDO.out, N.out, List.take_length], HO.out, HP.out, y⟩
open Go.RowKit
set_option linter.unusedVariables false
set_option linter.unusedSimpArgs false
theorem Z3Q (A B : Option Addr) (n m c d : Nat) (l k : List Ch) (w : World) (hn : n = l.length) (hm : m = k.length) (h1 : RdCh w w.heap.size A l) (h2 : RdCh w w.heap.size B k) (hb : n ≤ 140737488355328) (hb2 : m ≤ 140737488355328) :
 Calls Tryz.prog 78 #[.slice A n c, .slice B m d] w (Z7V (.bool (decide (l = k))) w) := by
 have N := hid hn
 have M := hid hm
 generalize hR : decide (l = k) = R
 have HR := hid hR
 clear hn hR hm
 by_cases hnm : (n : Int) = m
 ·have hnm' : n = m := by omega
  subst hnm'
  clear hnm
  go_enter Tryz.func78, Tryz.ntmps78
  go_wp2_with (fail)
  go_loopg [5] n (fun g iv wr => ∃ i : Nat, i ≤ n ∧ g = n - i ∧ iv = .int .i64 (i : Int) ∧ (∃ d, wr = w.drewN d) ∧ Hid (decide (l.drop i = k.drop i) = R))
  case atStart => exact ⟨0, by omega, rfl, rfl, ⟨0, rfl⟩, hid (by rw [List.drop_zero, List.drop_zero]; exact HR.out)⟩
  case round =>
   obtain ⟨i, hi, hg, rfl, ⟨q, rfl⟩, HI⟩ := hrel
   have HG := hid hg
   clear hg HR
   by_cases hlt : i < n
   ·have hl1 : i < l.length := by have := N.out; omega
    have hl2 : i < k.length := by have := M.out; omega
    obtain ⟨ad, x, rfl, _, hd1, _, hc1⟩ := h1.el hl1
    obtain ⟨ad2, y, rfl, _, hd2, _, hc2⟩ := h2.el hl2
    have HI' : Hid (decide (x :: l.drop (i + 1) = y :: k.drop (i + 1)) = R) := hid (by rw [← HI.out, hd1, hd2])
    clear HI hd1 hd2
    obtain ⟨x1, x6, x2, x3, x4, x5⟩ := x
    obtain ⟨y1, y6, y2, y3, y4, y5⟩ := y
    obtain ⟨r0, r1, r2, r3, r4, r5⟩ := Z0I hc1
    obtain ⟨s0, s1, s2, s3, s4, s5⟩ := Z0I hc2
    by_cases hxy : (⟨x1, x6, ⟨x2, x3, x4, x5⟩⟩ : Ch) = ⟨y1, y6, ⟨y2, y3, y4, y5⟩⟩
    ·have hq := Z9F hxy
     have HXY := hid hxy
     clear hxy
     go_wp2_with (go_quiet (fail))
     go_roundg (n - (i + 1))
     case measure => have := HG.out; omega
     case rel => exact ⟨i + 1, by omega, rfl, by go_num, ⟨_, rfl⟩, hid (by rw [← HI'.out]; simp only [List.cons.injEq, HXY.out, true_and])⟩
    ·have hq := Z9G hxy
     have HXY := hid hxy
     clear hxy
     go_wp2_with (go_quiet (fail))
     go_ret
     exact ⟨Z0f (by rw [← HI'.out]; exact (decide_eq_false fun e => HXY.out (List.cons.inj e).1).symm), _, World.drewN_drewN _ _ _⟩
   ·go_wp2_with (fail)
    go_ret
    exact ⟨Z0f (by rw [← HI.out, List.drop_eq_nil_of_le (by have := N.out; omega), List.drop_eq_nil_of_le (by have := M.out; omega)]; rfl), _, rfl⟩
 ·have hne : ((n : Int) == m) = false := beq_eq_false_iff_ne.2 hnm
  go_enter Tryz.func78, Tryz.ntmps78
  go_wp2_with (fail)
  go_ret
  refine ⟨Z0f ?_, 0, rfl⟩
  rw [← HR.out]
  refine (decide_eq_false fun e => ?_).symm
  have h3 := N.out
  have h4 := M.out
  rw [e] at h3
  omega
theorem Z3E {w : World} {b : Nat} {t : TypeId} {c0 c1 c2 c3 c4 : Value} (h : w.heap[b]? = some (.cells #[c0, c1, c2, c3, c4] t (0, 0))) :
 w.cell? ⟨b, 0, none⟩ = some c0 ∧ w.cell? ⟨b, 1, none⟩ = some c1 ∧ w.cell? ⟨b, 2, none⟩ = some c2 ∧ w.cell? ⟨b, 3, none⟩ = some c3 ∧ w.cell? ⟨b, 4, none⟩ = some c4 := by
 simp [World.cell?, h]
def OpS.val (x : OpS) : Value := .agg #[.int .u8 x.o.k, .int .i64 x.o.n, .slice x.Ar x.o.r.length x.cr, .slice x.As x.o.s.length x.cs, .slice x.Ap x.o.p.length x.cp]
theorem Z8r {P F : World → Prop} {v : World} (h : F v) (k : ∀ v, F v → P v) : P v := k v h
theorem Y1i (A B : Option Addr) (n m c d : Nat) (l k : List OpS) (w : World) (hn : n = l.length) (hm : m = k.length) (h1 : RdOp w w.heap.size A l) (h2 : RdOp w w.heap.size B k) (hb : n ≤ 100000000) (hb2 : m ≤ 100000000)
 (hs1 : ∀ x ∈ l, x.o.r.length ≤ 100000000 ∧ x.o.s.length ≤ 100000000 ∧ x.o.p.length ≤ 100000000) (hs2 : ∀ x ∈ k, x.o.r.length ≤ 100000000 ∧ x.o.s.length ≤ 100000000 ∧ x.o.p.length ≤ 100000000) :
 Calls Tryz.prog 22 #[.slice A n c, .slice B m d] w fun e w' => e = .returned (.bool (decide (osOf l = osOf k))) ∧ Below w.heap.size w w' := by
 have N := hid hn
 have M := hid hm
 have H1 := hid h1
 have H2 := hid h2
 have S1 := hid hs1
 have S2 := hid hs2
 generalize hR : decide (osOf l = osOf k) = R
 have HR := hid hR
 clear hn hR hm h1 h2 hs1 hs2
 have HL : Hid (∀ x : List OpS, (osOf x).length = x.length) := hid (fun x => by unfold osOf; simp)
 by_cases hnm : (n : Int) = m
 ·have hnm' : n = m := by omega
  subst hnm'
  clear hnm
  have hne : ((n : Int) != n) = false := by simp
  go_enter Tryz.func22, Tryz.ntmps22
  go_wp2_with (fail)
  go_loopg [5] n (fun g iv wr => ∃ i : Nat, i ≤ n ∧ g = n - i ∧ iv = .int .i64 (i : Int) ∧ Below w.heap.size w wr ∧ Hid (decide (osOf (l.drop i) = osOf (k.drop i)) = R))
  case atStart => exact ⟨0, by omega, rfl, rfl, Below.refl _ _, hid (by rw [List.drop_zero, List.drop_zero]; exact HR.out)⟩
  case round =>
   obtain ⟨i, hi, hg, rfl, y, HI⟩ := hrel
   have HG := hid hg
   clear hg HR
   by_cases hlt : i < n
   ·have hl1 : i < l.length := by have := N.out; omega
    have hl2 : i < k.length := by have := M.out; omega
    obtain ⟨ad, x, rfl, had1, hd1, hx1, hc1⟩ := (H1.out.ext y).1.el hl1
    obtain ⟨ad2, x', rfl, had2, hd2, hx2, hc2⟩ := (H2.out.ext y).1.el hl2
    have hm1 := List.mem_of_getElem? hx1
    have hm2 := List.mem_of_getElem? hx2
    have p1 := hid (H1.out.2 x hm1)
    have p2 := hid (H2.out.2 x' hm2)
    have b1 := hid (S1.out x hm1)
    have b2 := hid (S2.out x' hm2)
    have HI' : Hid (decide (x.o :: osOf (l.drop (i + 1)) = x'.o :: osOf (k.drop (i + 1))) = R) := hid (by rw [← HI.out, hd1, hd2]; rfl)
    clear HI hd1 hd2 hx1 hx2 hm1 hm2
    obtain ⟨⟨k1, n1, r1, s1, q1⟩, Ar1, cr1, As1, cs1, Ap1, cp1⟩ := x
    obtain ⟨⟨k2, n2, r2, s2, q2'⟩, Ar2, cr2, As2, cs2, Ap2, cp2⟩ := x'
    obtain ⟨z0, z1, z2, z3, z4⟩ := Z0o hc1
    obtain ⟨u0, u1, u2, u3, u4⟩ := Z0o hc2
    have hlt' : (i : Int) < (n : Int) := by omega
    have v1 : wr.heap.size ≠ (ad.add (i * 5)).block := by rw [Z0q]; omega
    have v2 : wr.heap.size ≠ (ad2.add (i * 5)).block := by rw [Z0q]; omega
    have v3 : wr.heap.size + 1 ≠ (ad.add (i * 5)).block := by rw [Z0q]; omega
    have v4 : wr.heap.size + 1 ≠ (ad2.add (i * 5)).block := by rw [Z0q]; omega
    clear hc1 hc2 hl1 hl2 had2 had1
    obtain ⟨sz, hsz⟩ : ∃ z, wr.heap.size = z := ⟨_, rfl⟩
    go_wp2_with (fail)
    go_region_held3 (fun w' => w'.cell? (ad.add (i * 5)) = some (.int .u8 k1) ∧ w'.cell? { block := (ad.add (i * 5)).block, off := (ad.add (i * 5)).off + 1 } = some (.int .i64 n1) ∧ w'.cell? { block := (ad.add (i * 5)).block, off := (ad.add (i * 5)).off + 2 } = some (.slice Ar1 r1.length cr1) ∧ w'.cell? { block := (ad.add (i * 5)).block, off := (ad.add (i * 5)).off + 3 } = some (.slice As1 s1.length cs1) ∧ w'.cell? { block := (ad.add (i * 5)).block, off := (ad.add (i * 5)).off + 4 } = some (.slice Ap1 q1.length cp1) ∧ w'.cell? (ad2.add (i * 5)) = some (.int .u8 k2) ∧ w'.cell? { block := (ad2.add (i * 5)).block, off := (ad2.add (i * 5)).off + 1 } = some (.int .i64 n2) ∧ w'.cell? { block := (ad2.add (i * 5)).block, off := (ad2.add (i * 5)).off + 2 } = some (.slice Ar2 r2.length cr2) ∧ w'.cell? { block := (ad2.add (i * 5)).block, off := (ad2.add (i * 5)).off + 3 } = some (.slice As2 s2.length cs2) ∧ w'.cell? { block := (ad2.add (i * 5)).block, off := (ad2.add (i * 5)).off + 4 } = some (.slice Ap2 q2'.length cp2))
     (go_keep) (fail)
    ·have ya := Z0b wr (.cells #[.int .u8 k1, .int .i64 n1, .slice Ar1 r1.length cr1, .slice As1 s1.length cs1, .slice Ap1 q1.length cp1] 50)
     have yb := Z0b (wr.alloc (.cells #[.int .u8 k1, .int .i64 n1, .slice Ar1 r1.length cr1, .slice As1 s1.length cs1, .slice Ap1 q1.length cp1] 50)) (.cells #[.int .u8 k2, .int .i64 n2, .slice Ar2 r2.length cr2, .slice As2 s2.length cs2, .slice Ap2 q2'.length cp2] 50)
     have ga := (yb.block wr.heap.size (by simp)).trans (heap_alloc_new wr (.cells #[.int .u8 k1, .int .i64 n1, .slice Ar1 r1.length cr1, .slice As1 s1.length cs1, .slice Ap1 q1.length cp1] 50))
     have gb := heap_alloc_new (wr.alloc (.cells #[.int .u8 k1, .int .i64 n1, .slice Ar1 r1.length cr1, .slice As1 s1.length cs1, .slice Ap1 q1.length cp1] 50)) (.cells #[.int .u8 k2, .int .i64 n2, .slice Ar2 r2.length cr2, .slice As2 s2.length cs2, .slice Ap2 q2'.length cp2] 50)
     rw [World.size_alloc] at gb
     rw [hsz] at ga gb
     refine Z8r (F := fun v => Below w.heap.size w v ∧ v.heap[sz]? = some (.cells #[.int .u8 k1, .int .i64 n1, .slice Ar1 r1.length cr1, .slice As1 s1.length cs1, .slice Ap1 q1.length cp1] 50 (0, 0)) ∧ v.heap[sz + 1]? = some (.cells #[.int .u8 k2, .int .i64 n2, .slice Ar2 r2.length cr2, .slice As2 s2.length cs2, .slice Ap2 q2'.length cp2] 50 (0, 0))) ⟨(Z0a y (Z0a ya yb)).drew, ga, gb⟩ ?_
     clear ya yb ga gb hsz v1 v2 v3 v4
     obtain ⟨sz1, hs1⟩ : ∃ z, sz + 1 = z := ⟨_, rfl⟩
     rw [hs1]
     clear hs1
     intro v
     rintro ⟨yv, g6, g7⟩
     obtain ⟨c0, c1, c2, c3, c4⟩ := Z0L g6
     obtain ⟨e0, e1, e2, e3, e4⟩ := Z0L g7
     have YV := hid yv
     clear g6 g7
     by_cases hk : k1 = k2
     ·subst hk
      have hkk : (k1 != k1) = false := by simp
      by_cases hn : n1 = n2
      ·subst hn
       have hnn : (n1 != n1) = false := by simp
       go_wp2_with (go_at_call 59; refine Hid.out ?_)
       refine hid ?_
       refine (Z5U Ar1 Ar2 r1.length r2.length cr1 cr2 r1 r2 v rfl rfl (p1.out.1.ext yv) (p2.out.1.ext yv) (by have := b1.out.1; omega) (by have := b2.out.1; omega)).mono ?_
       by_cases hr : r1 = r2
       ·subst hr
        rw [decide_eq_true rfl]
        rintro e v2 ⟨rfl, q2, rfl⟩
        go_wp2_with (go_at_call 39; refine Hid.out ?_)
        refine hid ?_
        refine (Z3q As1 As2 s1.length s2.length cs1 cs2 s1 s2 _ rfl rfl ((p1.out.2.1.ext yv).drewN _) ((p2.out.2.1.ext yv).drewN _) (by have := b1.out.2.1; omega) (by have := b2.out.2.1; omega)).mono ?_
        by_cases hs : s1 = s2
        ·subst hs
         rw [decide_eq_true rfl]
         rintro e v3 ⟨rfl, q3, rfl⟩
         go_wp2_with (go_at_call 78; refine Hid.out ?_)
         refine hid ?_
         refine (Z3Q Ap1 Ap2 q1.length q2'.length cp1 cp2 q1 q2' _ rfl rfl ((p1.out.2.2.ext yv).drewN _) ((p2.out.2.2.ext yv).drewN _) (by have := b1.out.2.2; omega) (by have := b2.out.2.2; omega)).mono ?_
         by_cases hp : q1 = q2'
         ·subst hp
          rw [decide_eq_true rfl]
          rintro e v4 ⟨rfl, q4, rfl⟩
          have hw2 : IntKind.i64.wrap ((i:Int) + 1) = (i : Int) + 1 := IntWalk.i64_in _ (by omega)
          go_wp2_with (fail)
          go_roundg (n - (i + 1))
          case measure => have := HG.out; omega
          case rel => exact ⟨i + 1, by omega, rfl, by go_num, Z0t YV.out _, hid (by rw [← HI'.out]; simp only [List.cons.injEq, true_and])⟩
         ·rw [decide_eq_false hp]
          rintro e v4 ⟨rfl, q4, rfl⟩
          have HP := hid hp
          clear hp
          go_wp2_with (fail)
          go_ret
          exact ⟨Z0f (by rw [← HI'.out]; exact (decide_eq_false fun e => HP.out (Opd.mk.inj (List.cons.inj e).1).2.2.2.2).symm), Z0t YV.out _⟩
        ·rw [decide_eq_false hs]
         rintro e v3 ⟨rfl, q3, rfl⟩
         have HP := hid hs
         clear hs
         go_wp2_with (fail)
         go_ret
         exact ⟨Z0f (by rw [← HI'.out]; exact (decide_eq_false fun e => HP.out (Opd.mk.inj (List.cons.inj e).1).2.2.2.1).symm), Z0t YV.out _⟩
       ·rw [decide_eq_false hr]
        rintro e v2 ⟨rfl, q2, rfl⟩
        have HP := hid hr
        clear hr
        go_wp2_with (fail)
        go_ret
        exact ⟨Z0f (by rw [← HI'.out]; exact (decide_eq_false fun e => HP.out (Opd.mk.inj (List.cons.inj e).1).2.2.1).symm), Z0t YV.out _⟩
      ·have hnn : (n1 != n2) = true := by simp [hn]
       have HP := hid hn
       clear hn
       go_wp2_with (fail)
       go_ret
       exact ⟨Z0f (by rw [← HI'.out]; exact (decide_eq_false fun e => HP.out (Opd.mk.inj (List.cons.inj e).1).2.1).symm), YV.out⟩
     ·have hkk : (k1 != k2) = true := by simp [hk]
      have HP := hid hk
      clear hk
      go_wp2_with (fail)
      go_ret
      exact ⟨Z0f (by rw [← HI'.out]; exact (decide_eq_false fun e => HP.out (Opd.mk.inj (List.cons.inj e).1).1).symm), YV.out⟩
    ·have ya := Z0b wr (.cells #[.int .u8 k2, .int .i64 n2, .slice Ar2 r2.length cr2, .slice As2 s2.length cs2, .slice Ap2 q2'.length cp2] 50)
     have yb := Z0b (wr.alloc (.cells #[.int .u8 k2, .int .i64 n2, .slice Ar2 r2.length cr2, .slice As2 s2.length cs2, .slice Ap2 q2'.length cp2] 50)) (.cells #[.int .u8 k1, .int .i64 n1, .slice Ar1 r1.length cr1, .slice As1 s1.length cs1, .slice Ap1 q1.length cp1] 50)
     have ga := (yb.block wr.heap.size (by simp)).trans (heap_alloc_new wr (.cells #[.int .u8 k2, .int .i64 n2, .slice Ar2 r2.length cr2, .slice As2 s2.length cs2, .slice Ap2 q2'.length cp2] 50))
     have gb := heap_alloc_new (wr.alloc (.cells #[.int .u8 k2, .int .i64 n2, .slice Ar2 r2.length cr2, .slice As2 s2.length cs2, .slice Ap2 q2'.length cp2] 50)) (.cells #[.int .u8 k1, .int .i64 n1, .slice Ar1 r1.length cr1, .slice As1 s1.length cs1, .slice Ap1 q1.length cp1] 50)
     rw [World.size_alloc] at gb
     rw [hsz] at ga gb
     refine Z8r (F := fun v => Below w.heap.size w v ∧ v.heap[sz + 1]? = some (.cells #[.int .u8 k1, .int .i64 n1, .slice Ar1 r1.length cr1, .slice As1 s1.length cs1, .slice Ap1 q1.length cp1] 50 (0, 0)) ∧ v.heap[sz]? = some (.cells #[.int .u8 k2, .int .i64 n2, .slice Ar2 r2.length cr2, .slice As2 s2.length cs2, .slice Ap2 q2'.length cp2] 50 (0, 0))) ⟨(Z0a y (Z0a ya yb)).drew, gb, ga⟩ ?_
     clear ya yb ga gb hsz v1 v2 v3 v4
     obtain ⟨sz1, hs1⟩ : ∃ z, sz + 1 = z := ⟨_, rfl⟩
     rw [hs1]
     clear hs1
     intro v
     rintro ⟨yv, g6, g7⟩
     obtain ⟨c0, c1, c2, c3, c4⟩ := Z0L g6
     obtain ⟨e0, e1, e2, e3, e4⟩ := Z0L g7
     have YV := hid yv
     clear g6 g7
     by_cases hk : k1 = k2
     ·subst hk
      have hkk : (k1 != k1) = false := by simp
      by_cases hn : n1 = n2
      ·subst hn
       have hnn : (n1 != n1) = false := by simp
       go_wp2_with (go_at_call 59; refine Hid.out ?_)
       refine hid ?_
       refine (Z5U Ar1 Ar2 r1.length r2.length cr1 cr2 r1 r2 v rfl rfl (p1.out.1.ext yv) (p2.out.1.ext yv) (by have := b1.out.1; omega) (by have := b2.out.1; omega)).mono ?_
       by_cases hr : r1 = r2
       ·subst hr
        rw [decide_eq_true rfl]
        rintro e v2 ⟨rfl, q2, rfl⟩
        go_wp2_with (go_at_call 39; refine Hid.out ?_)
        refine hid ?_
        refine (Z3q As1 As2 s1.length s2.length cs1 cs2 s1 s2 _ rfl rfl ((p1.out.2.1.ext yv).drewN _) ((p2.out.2.1.ext yv).drewN _) (by have := b1.out.2.1; omega) (by have := b2.out.2.1; omega)).mono ?_
        by_cases hs : s1 = s2
        ·subst hs
         rw [decide_eq_true rfl]
         rintro e v3 ⟨rfl, q3, rfl⟩
         go_wp2_with (go_at_call 78; refine Hid.out ?_)
         refine hid ?_
         refine (Z3Q Ap1 Ap2 q1.length q2'.length cp1 cp2 q1 q2' _ rfl rfl ((p1.out.2.2.ext yv).drewN _) ((p2.out.2.2.ext yv).drewN _) (by have := b1.out.2.2; omega) (by have := b2.out.2.2; omega)).mono ?_
         by_cases hp : q1 = q2'
         ·subst hp
          rw [decide_eq_true rfl]
          rintro e v4 ⟨rfl, q4, rfl⟩
          have hw2 : IntKind.i64.wrap ((i:Int) + 1) = (i : Int) + 1 := IntWalk.i64_in _ (by omega)
          go_wp2_with (fail)
          go_roundg (n - (i + 1))
          case measure => have := HG.out; omega
          case rel => exact ⟨i + 1, by omega, rfl, by go_num, Z0t YV.out _, hid (by rw [← HI'.out]; simp only [List.cons.injEq, true_and])⟩
         ·rw [decide_eq_false hp]
          rintro e v4 ⟨rfl, q4, rfl⟩
          have HP := hid hp
          clear hp
          go_wp2_with (fail)
          go_ret
          exact ⟨Z0f (by rw [← HI'.out]; exact (decide_eq_false fun e => HP.out (Opd.mk.inj (List.cons.inj e).1).2.2.2.2).symm), Z0t YV.out _⟩
        ·rw [decide_eq_false hs]
         rintro e v3 ⟨rfl, q3, rfl⟩
         have HP := hid hs
         clear hs
         go_wp2_with (fail)
         go_ret
         exact ⟨Z0f (by rw [← HI'.out]; exact (decide_eq_false fun e => HP.out (Opd.mk.inj (List.cons.inj e).1).2.2.2.1).symm), Z0t YV.out _⟩
       ·rw [decide_eq_false hr]
        rintro e v2 ⟨rfl, q2, rfl⟩
        have HP := hid hr
        clear hr
        go_wp2_with (fail)
        go_ret
        exact ⟨Z0f (by rw [← HI'.out]; exact (decide_eq_false fun e => HP.out (Opd.mk.inj (List.cons.inj e).1).2.2.1).symm), Z0t YV.out _⟩
      ·have hnn : (n1 != n2) = true := by simp [hn]
       have HP := hid hn
       clear hn
       go_wp2_with (fail)
       go_ret
       exact ⟨Z0f (by rw [← HI'.out]; exact (decide_eq_false fun e => HP.out (Opd.mk.inj (List.cons.inj e).1).2.1).symm), YV.out⟩
     ·have hkk : (k1 != k2) = true := by simp [hk]
      have HP := hid hk
      clear hk
      go_wp2_with (fail)
      go_ret
      exact ⟨Z0f (by rw [← HI'.out]; exact (decide_eq_false fun e => HP.out (Opd.mk.inj (List.cons.inj e).1).1).symm), YV.out⟩
   ·have hlt' : ¬ (i : Int) < (n : Int) := by omega
    go_wp2_with (fail)
    go_ret
    exact ⟨Z0f (by rw [← HI.out, List.drop_eq_nil_of_le (by have := N.out; omega), List.drop_eq_nil_of_le (by have := M.out; omega)]; rfl), y⟩
 ·have hne : ((n : Int) != m) = true := by simp [hnm]
  go_enter Tryz.func22, Tryz.ntmps22
  go_wp2_with (fail)
  go_ret
  refine ⟨Z0f ?_, Below.refl _ _⟩
  rw [← HR.out]
  refine (decide_eq_false fun e => ?_).symm
  have h3 := N.out
  have h4 := M.out
  have h5 := congrArg List.length e
  rw [HL.out, HL.out] at h5
  omega
theorem Y1j (A B : Option Addr) (n m c d : Nat) (l k : List ClS) (w : World) (hn : n = l.length) (hm : m = k.length) (h1 : RdCl w w.heap.size A l) (h2 : RdCl w w.heap.size B k) (hb : n ≤ 100000000) (hb2 : m ≤ 100000000)
 (hs1 : ∀ x ∈ l, x.c.s.length ≤ 140737488355328) (hs2 : ∀ x ∈ k, x.c.s.length ≤ 140737488355328) :
 Calls Tryz.prog 19 #[.slice A n c, .slice B m d] w (Y4V (.bool (decide (Z0e l = Z0e k))) w) := by
 have N := hid hn
 have M := hid hm
 have H1 := hid h1
 have H2 := hid h2
 have S1 := hid hs1
 have S2 := hid hs2
 generalize hR : decide (Z0e l = Z0e k) = R
 have HR := hid hR
 clear hn hR hm h1 h2 hs1 hs2
 have HL : Hid (∀ x : List ClS, (Z0e x).length = x.length) := hid (fun x => by unfold Z0e; simp)
 by_cases hnm : (n : Int) = m
 ·have hnm' : n = m := by omega
  subst hnm'
  clear hnm
  have hne : ((n : Int) != n) = false := by simp
  go_enter Tryz.func19, Tryz.ntmps19
  go_wp2_with (fail)
  go_loopg [5] n (fun g iv wr => ∃ (i dr : Nat), i ≤ n ∧ g = n - i ∧ iv = .int .i64 (i : Int) ∧ wr = w.drewN dr ∧ Hid (decide (Z0e (l.drop i) = Z0e (k.drop i)) = R))
  case atStart => exact ⟨0, 0, by omega, rfl, rfl, rfl, hid (by rw [List.drop_zero, List.drop_zero]; exact HR.out)⟩
  case round =>
   obtain ⟨i, dr, hi, hg, rfl, rfl, HI⟩ := hrel
   have HG := hid hg
   clear hg HR
   by_cases hlt : i < n
   ·have hl1 : i < l.length := by have := N.out; omega
    have hl2 : i < k.length := by have := M.out; omega
    have hlt' : (i : Int) < (n : Int) := by omega
    have y := Z0m w dr
    generalize hwq : w.drewN dr = wq at *
    have HWQ := hid hwq
    clear hwq
    obtain ⟨ad, x, rfl, _, hd1, hx1, hc1⟩ := (H1.out.ext y).1.el hl1
    obtain ⟨ad2, x', rfl, _, hd2, hx2, hc2⟩ := (H2.out.ext y).1.el hl2
    have hm1 := List.mem_of_getElem? hx1
    have hm2 := List.mem_of_getElem? hx2
    have p1 := hid ((H1.out.ext y).2 x hm1)
    have p2 := hid ((H2.out.ext y).2 x' hm2)
    have b1 := hid (S1.out x hm1)
    have b2 := hid (S2.out x' hm2)
    have HI' : Hid (decide (x.c :: Z0e (l.drop (i + 1)) = x'.c :: Z0e (k.drop (i + 1))) = R) := hid (by rw [← HI.out, hd1, hd2]; rfl)
    clear HI hd1 hd2 hx1 hx2 hm1 hm2
    obtain ⟨⟨r1, s1⟩, As1, cs1⟩ := x
    obtain ⟨⟨r2, s2⟩, As2, cs2⟩ := x'
    obtain ⟨z0, z1⟩ := Z03 hc1
    obtain ⟨u0, u1⟩ := Z03 hc2
    have hw2 : IntKind.i64.wrap ((i:Int) + 1) = (i : Int) + 1 := IntWalk.i64_in _ (by omega)
    clear hc1 hc2 hl1 hl2
    by_cases hr : r1 = r2
    ·subst hr
     have hrr : (r1 != r1) = false := by simp
     cases hd : decide (s1 = s2)
     all_goals
      have HD := hid hd
      clear hd
      have HSM : Hid (∀ v : Nat, Calls Tryz.prog 39 #[.slice As1 s1.length cs1, .slice As2 s2.length cs2] (wq.drewN v) (fun e w' => e = .returned (.bool _) ∧ ∃ m, w' = (wq.drewN v).drewN m)) := hid (fun v => by
       have h := Z3q As1 As2 s1.length s2.length cs1 cs2 s1 s2 (wq.drewN v) rfl rfl (p1.out.ext (Z0m _ v)) (p2.out.ext (Z0m _ v)) b1.out b2.out
       rw [HD.out] at h
       exact h)
      go_wp2_with (fail)
      go_quiet ((go_at_call 39; exact Calls.quiet_of (HSM.out _)))
     ·go_wp2_with (fail)
      go_ret
      exact ⟨Z0f (by rw [← HI'.out]; exact (decide_eq_false fun e => of_decide_eq_false HD.out (Cl.mk.inj (List.cons.inj e).1).2).symm), dr + nq, (by rw [← HWQ.out]; exact World.drewN_drewN _ _ _)⟩
     ·have e2 : s1 = s2 := of_decide_eq_true HD.out
      go_wp2_with (fail)
      go_roundg (n - (i + 1))
      case measure => have := HG.out; omega
      case rel => exact ⟨i + 1, dr + nq, by omega, rfl, by go_num, (by rw [← HWQ.out]; exact World.drewN_drewN _ _ _), hid (by rw [← HI'.out, e2]; simp only [List.cons.injEq, true_and])⟩
    ·have hrr : (r1 != r2) = true := by rw [bne, beq_eq_false_iff_ne.2 hr]; rfl
     have HD := hid hr
     clear hr
     go_wp2_with (fail)
     go_quiet (fail)
     go_wp2_with (fail)
     go_ret
     exact ⟨Z0f (by rw [← HI'.out]; exact (decide_eq_false fun e => HD.out (Cl.mk.inj (List.cons.inj e).1).1).symm), dr + nq, (by rw [← HWQ.out]; exact World.drewN_drewN _ _ _)⟩
   ·have hlt' : ¬ (i : Int) < (n : Int) := by omega
    go_wp2_with (fail)
    go_ret
    exact ⟨Z0f (by rw [← HI.out, List.drop_eq_nil_of_le (by have := N.out; omega), List.drop_eq_nil_of_le (by have := M.out; omega)]; rfl), dr, rfl⟩
 ·have hne : ((n : Int) != m) = true := by rw [bne, beq_eq_false_iff_ne.2 hnm]; rfl
  go_enter Tryz.func19, Tryz.ntmps19
  go_wp2_with (fail)
  go_ret
  refine ⟨Z0f ?_, 0, rfl⟩
  rw [← HR.out]
  refine (decide_eq_false fun e => ?_).symm
  have h3 := N.out
  have h4 := M.out
  have h5 := congrArg List.length e
  rw [HL.out, HL.out] at h5
  omega
theorem Y5A {w : World} {A : Option Addr} {n c : Nat} {L : List ClS} (h : DocAt w A n c L) : Calls Tryz.prog 15 #[.slice A n c] w (Y41 (Z0e L) w) :=
 (Z63 A n c L w h.len h.rd (by have := h.b; omega) (fun x hx => by have := (h.vr x hx).1; omega)).mono fun e w' hN => hN.doc (fun x hx => by
  obtain ⟨z, hz, rfl⟩ := Z9h hx
  exact h.vr z hz) (by have := h.clen; have := h.b; omega)
theorem Z3F {w : World} {A B : Option Addr} {n c n2 c2 : Nat} {L M : List ClS} (h1 : DocAt w A n c L) (h2 : DocAt w B n2 c2 M) {b : Bool} (hb : decide (Z0e L = Z0e M) = b) :
 Calls Tryz.prog 19 #[.slice A n c, .slice B n2 c2] w fun e w' => e = .returned (.bool b) ∧ Below w.heap.size w w' := by
 have h := Y1j A B n n2 c c2 L M w h1.len h2.len h1.rd h2.rd (by have := h1.b; omega) (by have := h2.b; omega) (fun x hx => by have := (h1.vr x hx).1; omega) (fun x hx => by have := (h2.vr x hx).1; omega)
 rw [hb] at h
 exact h.mono fun e w' ⟨he, d, hd⟩ => ⟨he, by subst hd; exact Z0m w d⟩
end Go.Proofs.YtfnkjcodcoehcaaGreatDoor
