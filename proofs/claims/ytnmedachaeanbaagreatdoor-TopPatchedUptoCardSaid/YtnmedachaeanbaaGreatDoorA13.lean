/- Merged texts. -/
import Derived.Test.YtnmedachaeanbaaGreatDoorA12
import Derived.Lib.AppendZerosOnto
import Derived.Lib.Walk
import Derived.Lib.SliceRun
namespace Go.Proofs.YtnmedachaeanbaaGreatDoor
set_option maxRecDepth 100000
set_option maxHeartbeats 800000
set_option linter.unusedVariables false
set_option linter.unusedSimpArgs false
def tkN (o : Opd) : Nat := if o.k = 2 then 0 else o.n.toNat
def layC (o : Opd) (d : List Cl) : List Cl := if o.k = 2 then o.r.map (fun r => ⟨r, o.s⟩) else if o.k = 1 then d.take o.n.toNat else []
def Z3h (l : List Ky) : List Opd → List Cl → List Cl
 | [], d => d
 | o :: x, d => (layC o d).map (fun c => actC l c o.p) ++ Z3h l x (d.drop (tkN o))
theorem Y50 (l : List Ky) (r : List Int) (s : List At) (d : List Cl) : app l (r.map (fun r => Un.ins r s)) d = r.map (fun r => (⟨r, s⟩ : Cl)) ++ d := by
 induction r with
 | nil => rfl
 | cons a r ih => show _ :: app l _ d = _; rw [ih]; rfl
theorem Y4c (l : List Ky) (n : Nat) (d : List Cl) : app l (List.replicate n .del) d = d.drop n := by
 induction n generalizing d with
 | zero => rfl
 | succ n ih => rw [List.replicate_succ]; show app l _ (d.drop 1) = _; rw [ih, List.drop_drop, Nat.add_comm 1]
theorem Y0b (l : List Ky) (n : Nat) (p : List Ch) (d : List Cl) : app l (List.replicate n (.ret p)) d = (d.take n).map (fun c => actC l c p) ++ d.drop n := by
 induction n generalizing d with
 | zero => rfl
 | succ n ih =>
   rw [List.replicate_succ]
   show (d.take 1).map _ ++ app l _ (d.drop 1) = _
   rw [ih, List.drop_drop, Nat.add_comm 1, ← List.append_assoc, ← List.map_append]
   congr 2
   cases d with
   | nil => simp
   | cons c d => simp
theorem Y1j (r : List Int) (s : List At) : Z0k (r.map (fun r => Un.ins r s)) = 0 := by
 induction r with
 | nil => rfl
 | cons a r ih => rw [List.map_cons, Z06, ih]
theorem Y1k (r : List Int) (s : List At) : Z0l (r.map (fun r => Un.ins r s)) = r.length := by
 induction r with
 | nil => rfl
 | cons a r ih => rw [List.map_cons, Z4b, ih]; rfl
theorem Z1U (n : Nat) (p : List Ch) : Z0k (List.replicate n (.ret p)) = n := by
 induction n with
 | zero => rfl
 | succ n ih => rw [List.replicate_succ, Z0y, ih]
theorem Z2Q (n : Nat) (p : List Ch) : Z0l (List.replicate n (.ret p)) = n := by
 induction n with
 | zero => rfl
 | succ n ih => rw [List.replicate_succ, Z1H, ih]
theorem Z8o {o : Opd} (ho : isOp o) : Z0k (Z0h o) = tkN o := by
 unfold tkN
 rcases Z0q ho with hk | hk | hk
 ·obtain ⟨e, hr⟩ := Z18 ho hk
  rw [if_pos hk, e, Z1Y, Y1j]
 ·obtain ⟨e, hr⟩ := Z2L ho hk
  rw [if_neg (by rw [hk]; decide), e, Z3B, Z2M]; rfl
 ·obtain ⟨e, hr⟩ := Z2g ho hk
  rw [if_neg (by rw [hk]; decide), e, Z1p, Z1U]; rfl
theorem Y0c (l : List Ky) : ∀ (x : List Opd) (d : List Cl), (∀ o ∈ x, isOp o) → Z3h l x d = app l (Z0e x) d
 | [], d, _ => rfl
 | o :: x, d, h => by
   have ih := Y0c l x (d.drop (tkN o)) (fun a ha => h a (List.mem_cons_of_mem _ ha))
   have ho := h o (by simp)
   rw [Z1j, Z3C, Z3h, ih, Z8o ho]
   congr 1
   unfold layC tkN
   rcases Z0q ho with hk | hk | hk
   ·obtain ⟨e, hr⟩ := Z18 ho hk
    rw [if_pos hk, if_pos hk]
    have hp : o.p = [] := by rw [e]; rfl
    have hu : Z0h o = o.r.map (fun r => Un.ins r o.s) := by unfold Z0h; rw [if_pos hk]
    rw [hp, hu, Y50, List.map_map]
    simp [Z4c, Function.comp_def]
   ·obtain ⟨e, hr⟩ := Z2L ho hk
    rw [if_neg (by rw [hk]; decide), if_neg (by rw [hk]; decide), if_neg (by rw [hk]; decide)]
    have hu : Z0h o = List.replicate o.n.toNat .del := by unfold Z0h; rw [if_neg (by rw [hk]; decide), if_neg (by rw [hk]; decide)]
    rw [hu, Y4c]
    simp
   ·obtain ⟨e, hr⟩ := Z2g ho hk
    rw [if_neg (by rw [hk]; decide), if_pos hk, if_neg (by rw [hk]; decide)]
    have hu : Z0h o = List.replicate o.n.toNat (.ret o.p) := by unfold Z0h; rw [if_neg (by rw [hk]; decide), if_pos hk]
    rw [hu, Y0b, List.take_take, Nat.min_self]
    simp
theorem Y4d {l : List Ky} {b : Bool} {id : Int} (h : Z1v l b id = true) (h' : Z1v l (!b) id = true) : False := by
 unfold Z1v at h h'
 cases hq : Z0N l id with
 | none => rw [hq] at h; cases h
 | some k => rw [hq] at h h'; cases b <;> cases hk : k.block <;> simp [hk] at h h'
theorem Y4e {l : List Ky} {c : Cl} {p : List Ch} (hl : l.length ≤ 64) (hc : okCl l c) (hp : mayP l p = 0) : okCl l (actC l c p) := by
 obtain ⟨h1, h2, h3⟩ := hc
 have hp2 : mayP l (Z0T l (c.r == 10) p) = 0 := Z3U _ hp
 refine ⟨h1, Y1i hl h2 hp2, ?_⟩
 obtain ⟨_, s1, s2, s3⟩ := Z1K h2
 obtain ⟨_, p1, p2, p3⟩ := Z0X hp2
 obtain ⟨a1, a2, _⟩ := Z1x (Z0G.1 p1) (Z0P.1 s1)
 show Z1T l (!(c.r == 10)) (Z0K (Z0T l (c.r == 10) p) c.s) = []
 generalize (c.r == 10) = b at *
 unfold Z1T
 refine List.filter_eq_nil_iff.2 fun x hx hk => ?_
 have e := Z5Z At.key a1 hx
 rw [a2] at e
 cases hq : lk Ch.key (Z0T l b p) x.key with
 | none =>
   rw [hq] at e
   have e : lk At.key c.s x.key = some x := e
   have hm : x ∈ Z1T l (!b) c.s := List.mem_filter.2 ⟨Z5Y At.key e, hk⟩
   rw [h3] at hm; cases hm
 | some y =>
   have hy := Z5Y Ch.key hq
   have hyk : y.key = x.key := Z78 Ch.key hq
   have := (List.mem_filter.1 hy).2
   simp only [hyk] at this
   exact Y4d this hk
theorem Y0d {l : List Ky} (hl : l.length ≤ 64) : ∀ (us : List Un) (d : List Cl), (∀ u ∈ us, vU l u) → (∀ c ∈ d, okCl l c) → ∀ c ∈ app l us d, okCl l c
 | [], d, _, hd => hd
 | .ins r s :: us, d, hu, hd => by
   intro c hc
   rcases List.mem_cons.1 hc with rfl | hc
   ·exact hu (.ins r s) (by simp)
   ·exact Y0d hl us d (fun u h => hu u (List.mem_cons_of_mem _ h)) hd c hc
 | .del :: us, d, hu, hd => Y0d hl us (d.drop 1) (fun u h => hu u (List.mem_cons_of_mem _ h)) (fun c hc => hd c (List.mem_of_mem_drop hc))
 | .ret p :: us, d, hu, hd => by
   intro c hc
   rcases List.mem_append.1 hc with hc | hc
   ·obtain ⟨x, hx, rfl⟩ := List.mem_map.1 hc
    exact Y4e hl (hd x (List.mem_of_mem_take hx)) (hu (.ret p) (by simp))
   ·exact Y0d hl us (d.drop 1) (fun u h => hu u (List.mem_cons_of_mem _ h)) (fun c hc => hd c (List.mem_of_mem_drop hc)) c hc
theorem Z3D {l : List Ky} {d : List Cl} : mayD l d = 0 ↔ d.length ≤ 536870912 ∧ (∀ c ∈ d, okCl l c) ∧ ∃ t c, d = t ++ [c] ∧ c.r = 10 := by
 constructor
 ·intro h
  unfold mayD at h
  split at h
  ·cases h
  rename_i h0
  split at h
  ·cases h
  rename_i h1
  split at h
  ·cases h
  rename_i h2
  split at h
  ·cases h
  rename_i h3
  split at h
  ·cases h
  rename_i h4
  refine ⟨by omega, fun c hc => ?_, ?_⟩
  ·have g1 := List.any_eq_false.1 (Bool.eq_false_iff.2 h1) c hc
   have g2 := List.any_eq_false.1 (Bool.eq_false_iff.2 h2) c hc
   have g4 := List.any_eq_false.1 (Bool.eq_false_iff.2 h4) c hc
   unfold badR at g1
   unfold badK at g2
   unfold badP at g4
   simp at g1 g2 g4
   exact ⟨g1.1, g2, g4⟩
  ·rcases List.eq_nil_or_concat d with h0 | ⟨t, c, h0⟩
   ·subst h0; simp at h3
   ·rw [List.concat_eq_append] at h0
    subst h0
    exact ⟨t, c, rfl, by simpa using h3⟩
 ·rintro ⟨h0, h1, t, c, rfl, h3⟩
  have g1 : (t ++ [c]).any (badR l) = false := List.any_eq_false.2 fun x hx => by
   obtain ⟨a, b, _⟩ := h1 x hx
   unfold badR
   rw [a, b]; decide
  have g2 : (t ++ [c]).any (badK l) = false := List.any_eq_false.2 fun x hx => by
   obtain ⟨a, b, _⟩ := h1 x hx
   unfold badK
   rw [b]; decide
  have g4 : (t ++ [c]).any (badP l) = false := List.any_eq_false.2 fun x hx => by
   obtain ⟨a, b, e⟩ := h1 x hx
   unfold badP
   rw [e]; simp
  unfold mayD
  rw [if_neg (by simp at h0 ⊢; omega), g1, g2, g4, if_neg (by decide), if_neg (by decide), if_neg (by simp [h3]), if_neg (by decide)]
theorem Y4f {n : Nat} : ∀ {us : List Un}, finU n n us = true → Z0k us = 0 → us = []
 | [], _, _ => rfl
 | .ins r s :: us, h, _ => by simp [finU] at h
 | .del :: us, _, h => by rw [Z0S] at h; omega
 | .ret p :: us, _, h => by rw [Z0y] at h; omega
theorem Z4g (l : List Ky) : ∀ (us : List Un) (t : List Cl) (c : Cl) (n a : Nat), Z0k us ≤ t.length + 1 → finU n a us = true → n = a + (t.length + 1) → ∃ t' c', app l us (t ++ [c]) = t' ++ [c'] ∧ c'.r = c.r
 | [], t, c, n, a, _, _, _ => ⟨t, c, rfl, rfl⟩
 | .ins r s :: us, t, c, n, a, h1, h2, h3 => by
   simp only [finU, Bool.and_eq_true] at h2
   obtain ⟨t', c', e, hr⟩ := Z4g l us t c n a (by rw [Z06] at h1; exact h1) h2.2 h3
   exact ⟨⟨r, s⟩ :: t', c', by show _ :: app l us _ = _; rw [e]; rfl, hr⟩
 | .del :: us, t, c, n, a, h1, h2, h3 => by
   simp only [finU, Bool.and_eq_true, decide_eq_true_eq] at h2
   rw [Z0S] at h1
   cases t with
   | nil => simp at h3; omega
   | cons x t =>
     obtain ⟨t', c', e, hr⟩ := Z4g l us t c n (a + 1) (by simp at h1; omega) h2.2 (by simp at h3; omega)
     exact ⟨t', c', e, hr⟩
 | .ret p :: us, t, c, n, a, h1, h2, h3 => by
   simp only [finU] at h2
   rw [Z0y] at h1
   cases t with
   | nil =>
     have e0 : us = [] := Y4f (n := n) (by rw [show a + 1 = n by simp at h3; omega] at h2; exact h2) (by simp at h1; omega)
     subst e0
     exact ⟨[], actC l c p, rfl, rfl⟩
   | cons x t =>
     obtain ⟨t', c', e, hr⟩ := Z4g l us t c n (a + 1) (by simp at h1; omega) h2 (by simp at h3; omega)
     exact ⟨actC l x p :: t', c', by show [actC l x p] ++ app l us (t ++ [c]) = _; rw [e]; rfl, hr⟩
theorem Y4g {l : List Ky} {us : List Un} {d : List Cl} {most : Nat} (hl : l.length ≤ 64) (hd : mayD l d = 0) (hf : FitU l us d.length most) (hb : d.length + Z0l us ≤ 536870912 + Z0k us) : mayD l (app l us d) = 0 := by
 obtain ⟨h0, h1, t, c, rfl, h3⟩ := Z3D.1 hd
 obtain ⟨t', c', e, hr⟩ := Z4g l us t c (t ++ [c]).length 0 (by have := hf.t; simpa using this) hf.f (by simp)
 have hlen := Z17 l us (t ++ [c]) hf.t
 exact Z3D.2 ⟨by omega, Y0d hl us _ hf.v h1, t', c', e, hr.trans h3⟩
def tks : List Opd → Nat
 | [] => 0
 | o :: x => tkN o + tks x
def Z1N (l : List Ky) : List Opd → List Cl → List Cl
 | [], _ => []
 | o :: x, d => (layC o d).map (fun c => actC l c o.p) ++ Z1N l x (d.drop (tkN o))
theorem Z4K (a b : List Opd) : tks (a ++ b) = tks a + tks b := by
 induction a with
 | nil => simp [tks]
 | cons o a ih => show tkN o + tks (a ++ b) = _; rw [ih]; simp only [tks]; omega
theorem Z46 (l : List Ky) (a b : List Opd) : ∀ d, Z1N l (a ++ b) d = Z1N l a d ++ Z1N l b (d.drop (tks a)) := by
 induction a with
 | nil => intro d; simp [Z1N, tks]
 | cons o a ih =>
   intro d
   show _ ++ Z1N l (a ++ b) (d.drop (tkN o)) = _
   rw [ih, List.drop_drop]
   simp only [Z1N, tks, List.append_assoc]
theorem Z59 (l : List Ky) (x : List Opd) : ∀ d, Z3h l x d = Z1N l x d ++ d.drop (tks x) := by
 induction x with
 | nil => intro d; simp [Z3h, Z1N, tks]
 | cons o x ih =>
   intro d
   show _ ++ Z3h l x (d.drop (tkN o)) = _
   rw [ih, List.drop_drop]
   simp only [Z1N, tks, List.append_assoc]
theorem Z9h (l : List Ky) (a b : List Opd) (d : List Cl) : Z3h l (a ++ b) d = Z1N l a d ++ Z3h l b (d.drop (tks a)) := by
 rw [Z59, Z59, Z46, Z4K, List.drop_drop, List.append_assoc]
theorem Y2F {α : Type} {x : List α} {i : Nat} {o : α} (h : x[i]? = some o) : x.take (i + 1) = x.take i ++ [o] := by rw [List.take_add_one, h]; rfl
theorem Z5v {l : List Ky} {x : List Opd} {i : Nat} {o : Opd} {d : List Cl} (h : x[i]? = some o) : Z1N l (x.take (i + 1)) d = Z1N l (x.take i) d ++ (layC o (d.drop (tks (x.take i)))).map (fun c => actC l c o.p) := by
 rw [Y2F h, Z46]; simp [Z1N]
theorem Y5z {x : List Opd} {i : Nat} {o : Opd} (h : x[i]? = some o) : tks (x.take (i + 1)) = tks (x.take i) + tkN o := by
 rw [Y2F h, Z4K]; rfl
theorem Y6Z {x : List Opd} (i : Nat) : tks (x.take i) ≤ tks x := by
 conv => rhs; rw [← List.take_append_drop i x]
 rw [Z4K]; omega
theorem Y2G {l : List Ky} {x : List Opd} {i : Nat} {o : Opd} {d : List Cl} (h : x[i]? = some o) : (Z1N l (x.take i) d).length + (layC o (d.drop (tks (x.take i)))).length ≤ (Z3h l x d).length := by
 have e : x = x.take (i + 1) ++ x.drop (i + 1) := (List.take_append_drop _ _).symm
 conv => rhs; rw [e]
 rw [Z9h, Z5v h]
 simp
theorem Y2H {x : List Opd} (h : ∀ o ∈ x, isOp o) : tks x = Z0k (Z0e x) := by
 induction x with
 | nil => rfl
 | cons o x ih =>
   rw [Z1j, Z0A, Z8o (h o (by simp)), ← ih (fun a ha => h a (List.mem_cons_of_mem _ ha))]; rfl
open Go.RowKit
open Go.Lib (hid)
theorem OpS.enc_one (x : OpS) : ∀ u ∈ x.enc, u.oneCell' = true := by intro u hu; simp [OpS.enc] at hu; rcases hu with rfl | rfl | rfl | rfl | rfl <;> rfl
abbrev OwOs := @Ow OpS OpS.enc 5 36
theorem Tryz.infoOp : (Tryz.prog.info? 36).map (fun i => (i.zero, i.size, i.bytes)) = some (some (.agg #[.int .u8 0, .int .i64 0, .slice none 0 0, .slice none 0 0, .slice none 0 0]), 5, 88) := by kernel_rfl
theorem Tryz.slOp : Tryz.prog.underlying 37 = some (.slice 36) := by kernel_rfl
abbrev OwCs := @Ow ClS ClS.enc 2 41
theorem Tryz.infoCl : (Tryz.prog.info? 41).map (fun i => (i.zero, i.size, i.bytes)) = some (some (.agg #[.int .i32 0, .slice none 0 0]), 2, 32) := by kernel_rfl
theorem Tryz.slCl : Tryz.prog.underlying 23 = some (.slice 41) := by kernel_rfl
section
variable {ops : Array Oper} {rest : List Oper} {o : Oper} {a : Act} {Q : Exit → Act → World → Prop} {w : World} {base : Nat} {v : Value} {K : Act → World → Prop} {E : Prop}
theorem Y2I {l m : List OpS} (hgd : o.guard = none) (s x : Operand)
 (ho : o.op = .call { callee := .builtin .append, args := #[s, x], argTypes := #[37, 37] })
 (hsv : a.eval s = v) (hown : OwOs w base v l) (B : Nat) (A : Option Addr) (c n : Nat) (hx : a.eval x = .slice A n c) (hn : n = m.length) (hr : RdOs w B A m)
 (hb : l.length + m.length ≤ 1000000000000) (hbase : base ≤ w.heap.size)
 (h : ∀ v' w', OwOs w' base v' (l ++ m) → w.grownBy w' (wb v) → (v' = v ∧ w' = w ∨ wb v' = wb v ∨ wb v' = some w.heap.size) → wpList Tryz.prog ops Q rest (a.put o.dst v') w') : wpList Tryz.prog ops Q (o :: rest) a w := by
 obtain ⟨i0, hi0, hz0, hz1, hz2⟩ := info_parts Tryz.infoOp
 exact Z1Q hgd s x _ ho i0 _ 88 Tryz.slOp hi0 hz0 hz1 hz2 rfl (by omega) OpS.enc_len OpS.enc_one hsv hown B A c n hx hn hr (by simp only [maxLen]; omega) (by omega) hbase h
theorem Z2E {l m : List OpS} (hgd : o.guard = none) (s x : Operand)
 (ho : o.op = .call { callee := .builtin .append, args := #[s, x], argTypes := #[37, 37] })
 (hsv : a.eval s = v) (hown : OwOs w base v l) (B : Nat) (A : Option Addr) (c n : Nat) (hx : a.eval x = .slice A n c) (hn : n = m.length) (hr : RdOs w B A m)
 (hb : l.length + m.length ≤ 1000000000000) (hbase : base ≤ w.heap.size)
 (h : ∀ v' w', OwOs w' base v' (l ++ m) → w.grownBy w' (wb v) → (v' = v ∧ w' = w ∨ wb v' = wb v ∨ wb v' = some w.heap.size) → K (a.put o.dst v') w') :
 if Region.wanted o (yielded ops a.tmps) = true then Oper.wp Tryz.prog o a w K Q else E := by
 have hw : Region.wanted o (yielded ops a.tmps) = true := by simp [Region.wanted, hgd]
 rw [if_pos hw]
 obtain ⟨i0, hi0, hz0, hz1, hz2⟩ := info_parts Tryz.infoOp
 exact Y1Q s x _ ho i0 _ 88 Tryz.slOp hi0 hz0 hz1 hz2 rfl (by omega) OpS.enc_len OpS.enc_one hsv hown B A c n hx hn hr (by simp only [maxLen]; omega) (by omega) hbase h
theorem Y4h {l m : List Int} (hgd : o.guard = none) (s x : Operand)
 (ho : o.op = .call { callee := .builtin .append, args := #[s, x], argTypes := #[33, 33] })
 (hsv : a.eval s = v) (hown : Z3S w base v l) (B : Nat) (A : Option Addr) (c n : Nat) (hx : a.eval x = .slice A n c) (hn : n = m.length) (hr : Z3i w B A m)
 (hb : l.length + m.length ≤ 1000000000000) (hbase : base ≤ w.heap.size)
 (h : ∀ v' w', Z3S w' base v' (l ++ m) → w.grownBy w' (wb v) → (v' = v ∧ w' = w ∨ wb v' = wb v ∨ wb v' = some w.heap.size) → K (a.put o.dst v') w') :
 if Region.wanted o (yielded ops a.tmps) = true then Oper.wp Tryz.prog o a w K Q else E := by
 have hw : Region.wanted o (yielded ops a.tmps) = true := by simp [Region.wanted, hgd]
 rw [if_pos hw]
 obtain ⟨i0, hi0, hz0, hz1, hz2⟩ := info_parts Tryz.infoI32
 exact Y1Q s x _ ho i0 _ 4 Tryz.slI32 hi0 hz0 hz1 hz2 rfl (by omega) Z1C Z6I hsv hown B A c n hx hn hr (by simp only [maxLen]; omega) (by omega) hbase h
theorem Y5A {l m : List ClS} (hgd : o.guard = none) (s x : Operand)
 (ho : o.op = .call { callee := .builtin .append, args := #[s, x], argTypes := #[23, 23] })
 (hsv : a.eval s = v) (hown : OwCs w base v l) (B : Nat) (A : Option Addr) (c n : Nat) (hx : a.eval x = .slice A n c) (hn : n = m.length) (hr : RdCs w B A m)
 (hb : l.length + m.length ≤ 2000000000000) (hbase : base ≤ w.heap.size)
 (h : ∀ v' w', OwCs w' base v' (l ++ m) → w.grownBy w' (wb v) → (v' = v ∧ w' = w ∨ wb v' = wb v ∨ wb v' = some w.heap.size) → wpList Tryz.prog ops Q rest (a.put o.dst v') w') : wpList Tryz.prog ops Q (o :: rest) a w := by
 obtain ⟨i0, hi0, hz0, hz1, hz2⟩ := info_parts Tryz.infoCl
 exact Z1Q hgd s x _ ho i0 _ 32 Tryz.slCl hi0 hz0 hz1 hz2 rfl (by omega) ClS.enc_len ClS.enc_one hsv hown B A c n hx hn hr (by simp only [maxLen]; omega) (by omega) hbase h
end
def Y2J (r : List OpS) (w : World) (e : Ending) (w' : World) : Prop :=
 ∃ A c, e = .returned (.slice A r.length c) ∧ OwOs w' w.heap.size (.slice A r.length c) r ∧ Below w.heap.size w w'
def Y60 (r : List Int) (w : World) (e : Ending) (w' : World) : Prop :=
 ∃ A c, e = .returned (.slice A r.length c) ∧ Z3S w' w.heap.size (.slice A r.length c) r ∧ Below w.heap.size w w'
theorem Z6a (A : Option Addr) (n c : Nat) (l : List OpS) (w : World) (hn : n = l.length) (h : RdOs w w.heap.size A l) (hb : n ≤ 100000000) :
 Calls Tryz.prog 226 #[.slice A n c] w (Y2J l w) := by
 cases A with
 | none =>
   have hl : l = [] := by
    cases l with
    | nil => rfl
    | cons a l => obtain ⟨ad, e, _⟩ := h (by simp); cases e
   subst hl
   have hn0 : n = 0 := by simpa using hn
   subst hn0
   clear hn
   have hq := fun (w : World) => Lib.run_eql_slice_nil (P := Tryz.prog) w 37 36 none 0 c 0 0 Tryz.slOp
   go_enter Tryz.func226, Tryz.ntmps226
   go_wp2_with (fail)
   go_ret
   exact ⟨none, 0, rfl, Ow.nil _ _, Below.refl _ _⟩
 | some ad =>
   have N := hid hn
   clear hn
   have hq := fun (w : World) => Lib.run_eql_slice_nil (P := Tryz.prog) w 37 36 (some ad) n c 0 0 Tryz.slOp
   go_enter Tryz.func226, Tryz.ntmps226
   go_wp2_with (first
    | (at_builtin; refine Y2I (m := l) rfl (.tmp 5) (.tmp 6) rfl rfl (by exact Ow.empty _ w.heap.size _) _ _ _ _ rfl N.out (by exact h.ext (Z0c w _)) (by have := N.out; simp only [List.length_nil]; omega) (by simp) ?_; intro v' w' hown' hgr hv'))
   rw [List.nil_append] at hown'
   obtain ⟨A', c', rfl, _, _⟩ := hown'.form
   go_ret
   exact ⟨A', c', rfl, hown', (Z0c w _).grown hgr (by simp) (fun k hk => by cases hk)⟩
theorem Z3q (A : Option Addr) (n c : Nat) (l : List Int) (w : World) (hn : n = l.length) (h : Z3i w w.heap.size A l) (hb : n ≤ 100000000) :
 Calls Tryz.prog 138 #[.slice A n c] w (Y60 l w) := by
 cases A with
 | none =>
   have hl : l = [] := by
    cases l with
    | nil => rfl
    | cons a l => obtain ⟨ad, e, _⟩ := h (by simp); cases e
   subst hl
   have hn0 : n = 0 := by simpa using hn
   subst hn0
   clear hn
   have hq := fun (w : World) => Lib.run_eql_slice_nil (P := Tryz.prog) w 33 21 none 0 c 0 0 Tryz.slI32
   go_enter Tryz.func138, Tryz.ntmps138
   go_wp2_with (fail)
   go_ret
   exact ⟨none, 0, rfl, Ow.nil _ _, Below.refl _ _⟩
 | some ad =>
   have N := hid hn
   clear hn
   have hq := fun (w : World) => Lib.run_eql_slice_nil (P := Tryz.prog) w 33 21 (some ad) n c 0 0 Tryz.slI32
   go_enter Tryz.func138, Tryz.ntmps138
   go_wp2_with (first
    | (at_builtin; refine Z83 (m := l) rfl (.tmp 5) (.tmp 6) rfl rfl (by exact Ow.empty _ w.heap.size _) _ _ _ _ rfl N.out (by exact h.ext (Z0c w _)) (by have := N.out; simp only [List.length_nil]; omega) (by simp) ?_; intro v' w' hown' hgr hv'))
   rw [List.nil_append] at hown'
   obtain ⟨A', c', rfl, _, _⟩ := hown'.form
   go_ret
   exact ⟨A', c', rfl, hown', (Z0c w _).grown hgr (by simp) (fun k hk => by cases hk)⟩
def NewCs (r : List ClS) (w : World) (e : Ending) (w' : World) : Prop :=
 ∃ A c, e = .returned (.slice A r.length c) ∧ OwCs w' w.heap.size (.slice A r.length c) r ∧ Below w.heap.size w w'
theorem Z9i (A : Option Addr) (n c : Nat) (l : List ClS) (w : World) (hn : n = l.length) (h : RdCs w w.heap.size A l) (hb : n ≤ 100000000) :
 Calls Tryz.prog 260 #[.slice A n c] w (NewCs l w) := by
 cases A with
 | none =>
   have hl : l = [] := by
    cases l with
    | nil => rfl
    | cons a l => obtain ⟨ad, e, _⟩ := h (by simp); cases e
   subst hl
   have hn0 : n = 0 := by simpa using hn
   subst hn0
   clear hn
   have hq := fun (w : World) => Lib.run_eql_slice_nil (P := Tryz.prog) w 23 41 none 0 c 0 0 Tryz.slCl
   go_enter Tryz.func260, Tryz.ntmps260
   go_wp2_with (fail)
   go_ret
   exact ⟨none, 0, rfl, Ow.nil _ _, Below.refl _ _⟩
 | some ad =>
   have N := hid hn
   clear hn
   have hq := fun (w : World) => Lib.run_eql_slice_nil (P := Tryz.prog) w 23 41 (some ad) n c 0 0 Tryz.slCl
   go_enter Tryz.func260, Tryz.ntmps260
   go_wp2_with (first
    | (at_builtin; refine Y5A (m := l) rfl (.tmp 5) (.tmp 6) rfl rfl (by exact Ow.empty _ w.heap.size _) _ _ _ _ rfl N.out (by exact h.ext (Z0c w _)) (by have := N.out; simp only [List.length_nil]; omega) (by simp) ?_; intro v' w' hown' hgr hv'))
   rw [List.nil_append] at hown'
   obtain ⟨A', c', rfl, _, _⟩ := hown'.form
   go_ret
   exact ⟨A', c', rfl, hown', (Z0c w _).grown hgr (by simp) (fun k hk => by cases hk)⟩
open Go.RowKit
set_option linter.unusedVariables false
set_option linter.unusedSimpArgs false
theorem Y61 (n : Int) (h : -9223372036854775808 ≤ n ∧ n ≤ 9223372036854775807) : wrap64 n = n := by rw [← IntWalk.i64_left, IntWalk.i64_in _ h]
theorem Tryz.elCl : Tryz.prog.elem 23 = 41 := by kernel_rfl
theorem Tryz.szCl : (Tryz.prog.info? 41).map (·.size) = some 2 := by kernel_rfl
theorem Y2K (W : World) : (sizeOf 41).run Tryz.prog W = .ok 2 W := by
 cases h : Tryz.prog.info? 41 with
 | none => have := Tryz.szCl; rw [h] at this; cases this
 | some i => have := Tryz.szCl; rw [h] at this; simp at this; simp [sizeOf, typeInfo, h, this]
theorem RdCl.take {w : World} {B : Nat} {A : Option Addr} {l : List ClS} (h : RdCl w B A l) (k : Nat) : RdCl w B A (l.take k) := ⟨h.1.take k, fun x hx => h.2 x (List.mem_of_mem_take hx)⟩
theorem RdCl.from {w : World} {B k c : Nat} {A A' : Option Addr} {l : List ClS} (h : RdCl w B A l) (hA : advS A c k 2 = A') (hk : k ≤ l.length) (hc : l.length ≤ c) : RdCl w B A' (l.drop k) := ⟨hA ▸ h.1.advS hk hc, fun x hx => h.2 x (List.mem_of_mem_drop hx)⟩
theorem Y1l (l : List ClS) (k : Nat) : Z0i (l.take k) = (Z0i l).take k := by unfold Z0i; rw [List.map_take]
theorem Z6X (l : List ClS) (k : Nat) : Z0i (l.drop k) = (Z0i l).drop k := by unfold Z0i; rw [List.map_drop]
theorem Z0D (l : List ClS) : (Z0i l).length = l.length := by unfold Z0i; simp
theorem Z3E {l : List ClS} {i : Nat} {x : ClS} (h : l[i]? = some x) : (Z0i l)[i]? = some x.c := by unfold Z0i; rw [List.getElem?_map, h]; rfl
structure Grow (w : World) (F : Nat → Prop) (w' : World) (F' : Nat → Prop) : Prop where
 os : w'.os = w.os
 tape : w'.tape = w.tape
 output : w'.output = w.output
 size : w.heap.size ≤ w'.heap.size
 block : ∀ j, j < w.heap.size → ¬ F j → w'.heap[j]? = w.heap[j]?
 foot : ∀ k, F' k → F k ∨ w.heap.size ≤ k
theorem Grow.refl (w : World) (F : Nat → Prop) : Grow w F w F := ⟨rfl, rfl, rfl, Nat.le_refl _, fun _ _ _ => rfl, fun _ h => .inl h⟩
theorem Grow.trans {a b c : World} {F G H : Nat → Prop} (h : Grow a F b G) (h' : Grow b G c H) : Grow a F c H :=
 ⟨h'.os.trans h.os, h'.tape.trans h.tape, h'.output.trans h.output, Nat.le_trans h.size h'.size,
  fun j hj hn => (h'.block j (Nat.lt_of_lt_of_le hj h.size) (fun hg => by rcases h.foot j hg with h1 | h1; exact hn h1; omega)).trans (h.block j hj hn),
  fun k hk => by
   rcases h'.foot k hk with h1 | h1
   ·exact h.foot k h1
   ·have := h.size; exact .inr (by omega)⟩
theorem Grow.of {w w' : World} {F : Nat → Prop} (y : Below w.heap.size w w') : Grow w F w' F := ⟨y.os, y.tape, y.output, y.size, fun j hj _ => y.block j hj, fun _ h => .inl h⟩
theorem Grow.below {w w' : World} {F G : Nat → Prop} {B : Nat} (h : Grow w F w' G) (hF : ∀ k, F k → B ≤ k) (hB : B ≤ w.heap.size) : Below B w w' :=
 ⟨h.os, h.tape, h.output, h.size, fun j hj => h.block j (by omega) (fun hf => by have := hF j hf; omega)⟩
theorem Grow.low {w w' : World} {F G : Nat → Prop} {B : Nat} (h : Grow w F w' G) (hF : ∀ k, F k → B ≤ k) (hB : B ≤ w.heap.size) : ∀ k, G k → B ≤ k := fun k hk => by
 rcases h.foot k hk with h1 | h1
 ·exact hF k h1
 ·omega
theorem Grow.out {w w' : World} {F G : Nat → Prop} (h : Grow w F w' G) {k : Nat} (hk : k < w.heap.size) (hn : ¬ F k) : ¬ G k := fun hg => by
 rcases h.foot k hg with h1 | h1
 ·exact hn h1
 ·omega
def OffF (F : Nat → Prop) (A : Option Addr) (n : Nat) : Prop := ∀ ad, A = some ad → 0 < n → ¬ F ad.block
section
variable {α : Type} {enc : α → List Value} {size : Nat} {e : TypeId} {w w' : World} {F G : Nat → Prop} {A : Option Addr} {l : List α} {v : Value} {base : Nat}
theorem Rd.grow (h : Rd enc size w w.heap.size A l) (g : Grow w F w' G) (hn : OffF F A l.length) : Rd enc size w' w'.heap.size A l := fun hl => by
 obtain ⟨ad, e, hb, hc⟩ := h hl
 have hne := hn ad e hl
 exact ⟨ad, e, Nat.lt_of_lt_of_le hb g.size, fun i hi => (hc i hi).keep fun q hq => by
  have hqb : q.block = ad.block := by rw [hq, Z0U]
  simp only [World.cell?]
  rw [hqb, g.block ad.block hb hne]⟩
theorem OffF.grow (h : OffF F A l.length) (hr : Rd enc size w w.heap.size A l) (g : Grow w F w' G) : OffF G A l.length := fun ad e hl => by
 obtain ⟨ad', e', hb, _⟩ := hr hl
 rw [e] at e'; injection e' with e'; subst e'
 exact g.out hb (h ad e hl)
theorem OffF.zero : OffF F A 0 := fun _ _ h => absurd h (Nat.lt_irrefl _)
theorem Ow.grow (h : Ow enc size e w base v l) (g : Grow w F w' G) (hn : ∀ k, wb v = some k → ¬ F k) : Ow enc size e w' base v l :=
 h.keep fun k hk => g.block k (h.wb_lt k hk).2 (hn k hk)
theorem Y4i {B : Nat} {n : Nat} (hF : ∀ k, F k → B ≤ k) (h : ∀ ad, A = some ad → 0 < n → ad.block < B) : OffF F A n := fun ad e hl hk => by
 have := hF _ hk; have := h ad e hl; omega
theorem Rd.offF {B : Nat} (h : Rd enc size w B A l) (hF : ∀ k, F k → B ≤ k) : OffF F A l.length := Y4i hF fun ad e hl => by
 obtain ⟨ad', e', hb, _⟩ := h hl
 rw [e] at e'; injection e' with e'; subst e'; exact hb
theorem Ow.offF {n c : Nat} (hs : ∀ a, (enc a).length = size) (h : Ow enc size e w base (.slice A n c) l) (hn : n = l.length) (hF : ∀ k, wb (.slice A n c) = some k → ¬ F k) : OffF F A n := fun ad ea hl hk => by
 subst ea
 have hc := h.form
 obtain ⟨A', c', hv, h1, _⟩ := hc
 injection hv with _ _ hcc
 subst hcc
 cases c with
 | zero => omega
 | succ c => exact hF _ rfl hk
end
theorem Z0j {w : World} {b j : Nat} {cs : Array Value} {t : TypeId} (h : w.heap[b]? = some (.cells cs t (0, 0))) (u : Value) : (w.setCell ⟨b, j, none⟩ u).heap[b]? = some (.cells (cs.setIfInBounds j u) t (0, 0)) := by
 have hb := Z40 h
 have he : w.heap[b] = .cells cs t (0, 0) := by
  have := h
  rw [Array.getElem?_eq_getElem hb] at this
  injection this
 unfold World.setCell
 rw [Array.getElem?_eq_getElem (by simpa using hb), Array.getElem_modify]
 simp [he]
open Go.RowKit
set_option linter.unusedVariables false
set_option linter.unusedSimpArgs false
section
variable {α : Type} {enc : α → List Value} {size : Nat} {e : TypeId} {w : World} {base : Nat} {l : List α}
theorem Y0e (hs : ∀ a, (enc a).length = size) : ∀ (l : List α) (i j : Nat) (u : Value) (a' : α) (h : i < l.length), j < size → enc a' = (enc l[i]).set j u → (l.set i a').flatMap enc = (l.flatMap enc).set (i * size + j) u
 | [], i, j, u, a', h, _, _ => absurd h (by simp)
 | a :: l, 0, j, u, a', _, hj, he => by
   simp only [List.set_cons_zero, List.flatMap_cons, Nat.zero_mul, Nat.zero_add]
   rw [he, List.set_append_left _ _ (by rw [hs]; exact hj)]
   rfl
 | a :: l, i + 1, j, u, a', h, hj, he => by
   have ih := Y0e hs l i j u a' (by simpa using h) hj (by simpa using he)
   simp only [List.set_cons_succ, List.flatMap_cons]
   rw [ih, List.set_append_right _ _ (by rw [hs, Nat.add_mul]; omega), hs]
   congr 2
   rw [Nat.add_mul]; omega
theorem Ow.setEl (hs : ∀ a, (enc a).length = size) {g n c i j : Nat} {u : Value} {a' : α} (h : Ow enc size e w base (.slice (some ⟨g, 0, none⟩) n c) l) (hi : i < l.length) (hj : j < size)
 (he : enc a' = (enc l[i]).set j u) : Ow enc size e (w.setCell ⟨g, i * size + j, none⟩ u) base (.slice (some ⟨g, 0, none⟩) n c) (l.set i a') := by
 obtain ⟨g', cur, hA, hn, hbg, hg, hlc, hcm, hcur, htake⟩ := h.row (by omega)
 injection hA with hA
 injection hA with hA _ _
 subst hA
 refine .inr ⟨Z2v hs _, .inr ⟨g, c, cur.setIfInBounds (i * size + j) u, by rw [List.length_set, hn], hbg, Z0j hg u, by rw [List.length_set]; exact hlc, hcm, by simpa using hcur, ?_⟩⟩
 rw [Y0e hs l i j u a' hi hj he, ← htake]
 simp only [Array.toList_setIfInBounds, List.length_set]
 rw [List.take_set]
end
open Go.RowKit
set_option linter.unusedVariables false
theorem Z0E {P : Program} {ops : Array Oper} {o : Oper} {a : Act} {w : World} {K : Act → World → Prop} {Q : Exit → Act → World → Prop} {E : Prop} {R : Ending → World → Prop}
 (hg : o.guard = none) (k : Nat) (args : List Operand) (tys : Array TypeId) (hop : o.op = Op.call { callee := .value (.func k), args := args.toArray, argTypes := tys })
 (fn : Func) (hf : P.funcs[k]? = some fn) (hn0 : decide (fn.name = "runtime.NumGoroutine") = false) (hb0 : fn.body.isSome = true)
 (vs : List Value) (hv : args.map a.eval = vs) (hc : Calls P k vs.toArray w R) (h : ∀ e w', R e w' → ∃ v, e = .returned v ∧ K (a.put o.dst v) w') :
 if Region.wanted o (yielded ops a.tmps) = true then Oper.wp P o a w K Q else E := by
 have hn : ¬ fn.name = "runtime.NumGoroutine" := of_decide_eq_false hn0
 have hb : ¬ fn.body = none := fun e => by rw [e] at hb0; cases hb0
 have hw : Region.wanted o (yielded ops a.tmps) = true := by simp [Region.wanted, hg]
 rw [if_pos hw]
 unfold Oper.wp
 have he : a.eval (.func k) = .func (.func k) #[] #[] := rfl
 simp [execOp, hop, resolve, invoke, Result.andThen, he, hv, Deferred.ofValue, callFunc, hf, hn, hb]
 unfold Oper.upon
 refine hc.mono ?_
 intro e w' hr
 obtain ⟨v, rfl, hk⟩ := h e w' hr
 exact hk
set_option linter.unusedSimpArgs false
theorem Y1m (n : Nat) (w : World) (hb : n ≤ 100000000000) :
 Calls Tryz.prog 230 #[.slice none 0 0, .int .i64 (n : Int)] w (Y2J [] w) := by
 by_cases h0 : n = 0
 ·subst h0
  go_enter Tryz.func230, Tryz.ntmps230
  go_wp2_with (fail)
  go_ret
  exact ⟨none, 0, rfl, Ow.nil _ _, Below.refl _ _⟩
 ·obtain ⟨i0, hi0, hz0, hz1, hz2⟩ := info_parts Tryz.infoOp
  have hold : (Builtin.firstCells i0.size 0 (.slice none 0 0)).run Tryz.prog w.drew = .ok #[] w.drew := run_firstCells_none w.drew i0.size 0 0 0
  have hfit := growslice_fits (need := n) (old := 0) (bytes := i0.bytes) (by omega) (by rw [hz2]; omega)
  have hrz := fun ty => Lib.run_append_grow_zeros w 37 3 ty 36 i0 _ .i64 .i64 Tryz.slOp (by kernel_rfl) hi0 hz0 none 0 0 [] hold n (by omega) (by rw [hz1]; omega) (by omega) (by omega) (by rw [hz2]; omega) (by simpa using hfit)
  have hge := grownCap_ge w n 0 36
  have hle := grownCap_le_maxLen w n 0 36 (by unfold maxLen; omega)
  have hsz : (Value.agg #[.int .u8 0, .int .i64 0, .slice none 0 0, .slice none 0 0, .slice none 0 0]).cells.size = 5 := rfl
  simp only [Nat.zero_add] at hrz
  generalize hG : grownCap w n 0 36 = G at hrz hge hle
  have hG63 : G ≤ 9223372036854775807 := by unfold maxLen at hle; omega
  have hpos : (0 : Int) < (n : Int) := by omega
  generalize hcs : (([] : List Value).toArray ++ Builtin.zeroCells (Value.agg #[.int .u8 0, .int .i64 0, .slice none 0 0, .slice none 0 0, .slice none 0 0]).cells n ++ Builtin.zeroCells (Value.agg #[.int .u8 0, .int .i64 0, .slice none 0 0, .slice none 0 0, .slice none 0 0]).cells (G - n)) = cs at hrz
  have hcsz : cs.size = G * 5 := by
   rw [← hcs]
   simp only [Array.size_append, size_zeroCells, hsz]
   simp
   omega
  have HC := hid hcsz
  have HLE := hid hle
  clear hcs hcsz hG hold hi0 hz0 hz1 hz2 hsz hle hfit
  go_enter Tryz.func230, Tryz.ntmps230
  go_wp2_with (at_builtin; refine Lib.wpList_append_run _ rfl _ _ _ _ rfl _ _ rfl rfl _ _ (hrz _) ?_)
  go_ret
  refine ⟨some ⟨w.heap.size, 0, none⟩, G, rfl, .inr ⟨rfl, .inr ⟨w.heap.size, G, cs, rfl, Nat.le_refl _, ?_, Nat.zero_le _, HLE.out, HC.out, by simp⟩⟩, (Z0p w 1).alloc (Nat.le_refl _) _⟩
  exact heap_alloc_new w.drew _
structure RwS where
 A : Option Addr
 l : List OpS
 c : Nat
def RwS.enc (x : RwS) : List Value := [.slice x.A x.l.length x.c]
def catR (rs : List RwS) (i : Nat) : List OpS := (rs.take i).flatMap (fun x => x.l)
theorem Z6b {rs : List RwS} {i : Nat} {x : RwS} (h : rs[i]? = some x) : catR rs (i + 1) = catR rs i ++ x.l := by
 unfold catR
 rw [List.take_add_one, h, List.flatMap_append]
 simp
theorem Y4j {rs : List RwS} (h : ∀ x ∈ rs, x.l.length ≤ 20000001) (i : Nat) : (catR rs i).length ≤ i * 20000001 := by
 induction i with
 | zero => simp [catR]
 | succ i ih =>
   cases hx : rs[i]? with
   | none =>
     have e : catR rs (i + 1) = catR rs i := by unfold catR; rw [List.take_add_one, hx]; simp
     have e2 := congrArg List.length e
     omega
   | some x =>
     have e2 := congrArg List.length (Z6b hx)
     rw [List.length_append] at e2
     have := h x (List.mem_of_getElem? hx)
     omega
theorem Y4k (rs : List RwS) (n : Nat) (h : n = rs.length) : catR rs n = rs.flatMap (fun x => x.l) := by
 subst h; unfold catR; rw [List.take_length]
theorem Z2z (A : Option Addr) (n c : Nat) (rs : List RwS) (w : World) (hn : n = rs.length) (h : Rd RwS.enc 1 w w.heap.size A rs) (hr : ∀ x ∈ rs, RdOs w w.heap.size x.A x.l) (hb : n ≤ 1000) (hs : ∀ x ∈ rs, x.l.length ≤ 20000001) :
 Calls Tryz.prog 147 #[.slice A n c] w (Y2J (rs.flatMap (fun x => x.l)) w) := by
 have N := hid hn
 have HS := hid (fun i => Y4j hs i)
 have HS1 := hid hs
 have HA := hid (Y4k rs n hn)
 clear hn hs
 go_enter Tryz.func147, Tryz.ntmps147
 go_wp2_with (fail)
 go_loopg [3, 11] n (fun g sv iv wr => ∃ m : Nat, m ≤ n ∧ g = n - m ∧ sv = .int .i64 ((catR rs m).length : Int) ∧ iv = .int .i64 (m : Int) ∧ Below w.heap.size w wr)
 case atStart => exact ⟨0, by omega, rfl, rfl, rfl, Below.refl _ _⟩
 case round =>
  obtain ⟨m, hm, hg, rfl, rfl, y⟩ := hrel
  have HG := hid hg
  clear hg
  by_cases hlt : m < n
  ·have hl1 : m < rs.length := by have := N.out; omega
   obtain ⟨ad, x, rfl, had, _, hxi, hc0⟩ := (h.below y (Nat.le_refl _)).el hl1
   have hx1 := HS1.out x (List.mem_of_getElem? hxi)
   have hx2 := HS.out m
   have e := Z6b hxi
   have E := hid (show ((catR rs (m + 1)).length : Int) = (catR rs m).length + x.l.length by rw [e, List.length_append]; omega)
   obtain ⟨xA, xl, xc⟩ := x
   have r0 : wr.cell? (ad.add m) = some (.slice xA xl.length xc) := by have := hc0 0 _ rfl; rwa [Z0o, Nat.mul_one] at this
   have hbnd : ((catR rs m).length : Int) + (xl.length : Int) ≤ 1000000000000 := by have : m * 20000001 ≤ 1000 * 20000001 := Nat.mul_le_mul_right _ (by omega); simp only at hx1; omega
   generalize (catR rs m).length = S at *
   clear hc0 e hx1 hx2
   have hw1 : wrap64 ((S : Int) + (xl.length : Int)) = (S : Int) + (xl.length : Int) := by rw [← IntWalk.i64_left, IntWalk.i64_in _ (by omega)]
   have hw2 : IntKind.i64.wrap ((m:Int) + 1) = (m : Int) + 1 := IntWalk.i64_in _ (by omega)
   have hnn : ¬ ((S : Int) + (xl.length : Int) < 0) := by omega
   go_wp2_with (fail)
   go_roundg (n - (m + 1))
   case measure => have := HG.out; omega
   case rel => exact ⟨m + 1, by omega, rfl, by rw [E.out], by go_num, y⟩
  ·have hmn : m = n := by omega
   subst hmn
   have hg0 := HS.out m
   have hbnd : (catR rs m).length ≤ 100000000000 := by have : m * 20000001 ≤ 1000 * 20000001 := Nat.mul_le_mul_right _ (by omega); omega
   have HB := hid hbnd
   clear hg0 hbnd
   go_wp2_with (go_at_call 230; refine Hid.out ?_)
   refine hid ?_
   refine (Y1m (catR rs m).length _ HB.out).mono ?_
   rintro e w1 ⟨A1, k1, rfl, o1, y1⟩
   have Y := hid (Z0a y y1)
   have O := hid (o1.base_le y.size)
   clear y1 o1 hlt
   go_wp2_with (fail)
   go_loopg [6, 27] m (fun g v iv wr => ∃ q : Nat, q ≤ m ∧ g = m - q ∧ iv = .int .i64 (q : Int) ∧ OwOs wr w.heap.size v (catR rs q) ∧ Below w.heap.size w wr)
   case atStart => exact ⟨0, by omega, rfl, rfl, O.out, Y.out⟩
   case round =>
    obtain ⟨q, hq, hg, rfl, ho, y2⟩ := hrel
    have HG2 := hid hg
    clear hg
    obtain ⟨Aq, cq, rfl, _, _⟩ := ho.form
    by_cases hlt : q < m
    ·have hl1 : q < rs.length := by have := N.out; omega
     obtain ⟨ad, x, rfl, had, _, hxi, hc0⟩ := (h.below y2 (Nat.le_refl _)).el hl1
     have hx1 := HS1.out x (List.mem_of_getElem? hxi)
     have hx2 := HS.out q
     have hrx := (hr x (List.mem_of_getElem? hxi)).ext y2
     have e := hid (Z6b hxi)
     have HO := hid ho
     obtain ⟨xA, xl, xc⟩ := x
     have r0 : wr.cell? (ad.add q) = some (.slice xA xl.length xc) := by have := hc0 0 _ rfl; rwa [Z0o, Nat.mul_one] at this
     have hw2 : IntKind.i64.wrap ((q:Int) + 1) = (q : Int) + 1 := IntWalk.i64_in _ (by omega)
     have hbnd := hid (show (catR rs q).length + xl.length ≤ 100000000000 by have : q * 20000001 ≤ 1000 * 20000001 := Nat.mul_le_mul_right _ (by omega); simp only at hx1; omega)
     clear hc0 hx1 hx2 ho
     go_wp2_with (at_builtin; refine Y2I (m := xl) rfl (.tmp 31) (.tmp 32) rfl rfl (by exact HO.out) _ xA xc xl.length rfl rfl (by exact hrx) (by have := hbnd.out; omega) (by exact y2.size) ?_; intro v' w' hown' hgr hv')
     have s1 := Z1h y2 y2.size HO.out (Nat.le_refl _) hgr
     go_wp2_with (fail)
     go_roundg (m - (q + 1))
     case measure => have := HG2.out; omega
     case rel => exact ⟨q + 1, by omega, rfl, by go_num, by rw [e.out]; exact hown', s1⟩
    ·have hqm : q = m := by omega
     subst hqm
     have HO := hid ho
     clear ho
     go_wp2_with (fail)
     go_ret
     rw [HA.out] at *
     exact ⟨Aq, cq, rfl, HO.out, y2⟩
def PartF (w : World) (F : Nat → Prop) (x : OpS) : Prop :=
 (Z3i w w.heap.size x.Ar x.o.r ∧ OffF F x.Ar x.o.r.length) ∧ (RdAt w w.heap.size x.As x.o.s ∧ OffF F x.As x.o.s.length) ∧ (RdCh w w.heap.size x.Ap x.o.p ∧ OffF F x.Ap x.o.p.length)
theorem PartF.grow {w w' : World} {F G : Nat → Prop} {x : OpS} (h : PartF w F x) (g : Grow w F w' G) : PartF w' G x :=
 ⟨⟨h.1.1.grow g h.1.2, h.1.2.grow h.1.1 g⟩, ⟨h.2.1.1.grow g h.2.1.2, h.2.1.2.grow h.2.1.1 g⟩, ⟨h.2.2.1.grow g h.2.2.2, h.2.2.2.grow h.2.2.1 g⟩⟩
def LastF (w : World) (F : Nat → Prop) (b : Nat) (vd vi : Value) (x : OpS) : Prop :=
 Z3S w 0 (.slice x.Ar x.o.r.length x.cr) x.o.r ∧ (∀ k, wb (.slice x.Ar x.o.r.length x.cr) = some k → F k ∧ k ≠ b ∧ wb vd ≠ some k ∧ wb vi ≠ some k) ∧
 (RdAt w w.heap.size x.As x.o.s ∧ OffF F x.As x.o.s.length) ∧ (RdCh w w.heap.size x.Ap x.o.p ∧ OffF F x.Ap x.o.p.length)
def InsF (w : World) (F : Nat → Prop) (b : Nat) (vd vi : Value) (I : List OpS) : Prop :=
 (∀ x ∈ I.dropLast, PartF w F x) ∧ ∀ x, I.getLast? = some x → LastF w F b vd vi x
def Mkr (w : World) (F : Nat → Prop) (b : Nat) (m : Mk) : Prop :=
 ∃ (vd vi : Value) (D I : List OpS), w.heap[b]? = some (.cells #[vd, vi, .int .i64 m.gone] 189 (0, 0)) ∧
   OwOs w 0 vd D ∧ OwOs w 0 vi I ∧ osOf D = m.done ∧ osOf I = m.ins ∧
   (∀ k, F k → k < w.heap.size) ∧ F b ∧ (∀ k, wb vd = some k → F k ∧ k ≠ b ∧ wb vi ≠ some k) ∧ (∀ k, wb vi = some k → F k ∧ k ≠ b) ∧
   (∀ x ∈ D, PartF w F x) ∧ InsF w F b vd vi I
theorem Z0Z {w : World} {b : Nat} {t : TypeId} {c0 c1 c2 : Value} (h : w.heap[b]? = some (.cells #[c0, c1, c2] t (0, 0))) : w.cell? ⟨b, 0, none⟩ = some c0 ∧ w.cell? ⟨b, 1, none⟩ = some c1 ∧ w.cell? ⟨b, 2, none⟩ = some c2 := by
 simp [World.cell?, h]
theorem Mkr.lt {w : World} {F : Nat → Prop} {b : Nat} {m : Mk} (h : Mkr w F b m) : ∀ k, F k → k < w.heap.size := by
 obtain ⟨_, _, _, _, _, _, _, _, _, h1, _⟩ := h; exact h1
theorem Mkr.below {w w' : World} {F : Nat → Prop} {b : Nat} {m : Mk} (h : Mkr w F b m) (y : Below w.heap.size w w') : Mkr w' F b m := by
 obtain ⟨vd, vi, D, I, h1, h2, h3, h4, h5, h6, h7, h8, h9, h10, h11, h12⟩ := h
 have g := Grow.of (F := F) y
 refine ⟨vd, vi, D, I, (y.block b (Z0b h1)).trans h1, h2.below y (Nat.le_refl _), h3.below y (Nat.le_refl _), h4, h5, fun k hk => Nat.lt_of_lt_of_le (h6 k hk) y.size, h7, h8, h9, fun x hx => (h10 x hx).grow g, fun x hx => (h11 x hx).grow g, fun x hx => ?_⟩
 obtain ⟨e1, e2, e3, e4⟩ := h12 x hx
 exact ⟨e1.below y (Nat.le_refl _), e2, ⟨e3.1.grow g e3.2, e3.2.grow e3.1 g⟩, ⟨e4.1.grow g e4.2, e4.2.grow e4.1 g⟩⟩
theorem Z8p (w : World) : Calls Tryz.prog 62 #[] w fun e w' => e = .returned (.pointer (some ⟨w.heap.size, 0, none⟩)) ∧ Mkr w' (fun k => k = w.heap.size) w.heap.size Mk.new ∧ Below w.heap.size w w' := by
 have y := Z0c w (.cells #[.slice none 0 0, .slice none 0 0, .int .i64 0] 189)
 have hb := heap_alloc_new w (.cells #[.slice none 0 0, .slice none 0 0, .int .i64 0] 189)
 have HB := hid hb
 clear hb
 go_enter Tryz.func62, Tryz.ntmps62
 go_wp2_with (fail)
 go_ret
 refine ⟨rfl, ⟨.slice none 0 0, .slice none 0 0, [], [], HB.out, Ow.nil _ _, Ow.nil _ _, rfl, rfl, fun k hk => (by subst hk; simp), rfl, fun k hk => (by cases hk), fun k hk => (by cases hk), fun x hx => (by cases hx), fun x hx => (by cases hx), fun x hx => (by cases hx)⟩, y⟩
theorem Z0m {w : World} (b j : Nat) (u : Value) {F : Nat → Prop} (hF : F b) (t : TypeId) : Grow w F (w.setCell ⟨b, j, none⟩ u) F :=
 ⟨rfl, rfl, rfl, by simp [World.setCell], fun k _ hk => Below.heap_setCell w ⟨b, j, none⟩ u k (fun e => hk (e ▸ hF)), fun k h => .inl h⟩
def Z5j (m : Mk) (w : World) (F : Nat → Prop) (b : Nat) (e : Ending) (w' : World) : Prop :=
 e = .returned (.tuple #[]) ∧ ∃ F', Mkr w' F' b m ∧ Grow w F w' F'
theorem Z2A {w : World} {v : Value} {l : List OpS} (h : OwOs w 0 v l) {b j : Nat} (hp : ∀ k, wb v = some k → k ≠ b) (u : Value) : OwOs (w.setCell ⟨b, j, none⟩ u) 0 v l :=
 h.setCell (p := ⟨b, j, none⟩) (fun e => hp b e rfl) u
theorem Mkr.setGone {w : World} {F : Nat → Prop} {b : Nat} {m : Mk} (h : Mkr w F b m) (g : Int) : Mkr (w.setCell ⟨b, 2, none⟩ (.int .i64 g)) F b { m with gone := g } := by
 obtain ⟨vd, vi, D, I, h1, h2, h3, h4, h5, h6, h7, h8, h9, h10, h11, h12⟩ := h
 have gr := Z0m (w := w) b 2 (.int .i64 g) h7 0
 refine ⟨vd, vi, D, I, ?_, Z2A h2 (fun k hk => (h8 k hk).2.1) _, Z2A h3 (fun k hk => (h9 k hk).2) _, h4, h5, fun k hk => Nat.lt_of_lt_of_le (h6 k hk) gr.size, h7, h8, h9, fun x hx => (h10 x hx).grow gr, fun x hx => (h11 x hx).grow gr, fun x hx => ?_⟩
 ·rw [Z0j h1]; rfl
 ·obtain ⟨e1, e2, e3, e4⟩ := h12 x hx
  exact ⟨e1.setCell (p := ⟨b, 2, none⟩) (fun e => (e2 b e).2.1 rfl) _, e2, ⟨e3.1.grow gr e3.2, e3.2.grow e3.1 gr⟩, ⟨e4.1.grow gr e4.2, e4.2.grow e4.1 gr⟩⟩
theorem Mkr.box {w : World} {F : Nat → Prop} {b : Nat} {m : Mk} (h : Mkr w F b m) : ∃ vd vi : Value, w.heap[b]? = some (.cells #[vd, vi, .int .i64 m.gone] 189 (0, 0)) ∧ F b := by
 obtain ⟨vd, vi, _, _, h1, _, _, _, _, _, h7, _⟩ := h
 exact ⟨vd, vi, h1, h7⟩
theorem Z0d {w : World} {b : Nat} {cs : Array Value} {t : TypeId} (h : w.heap[b]? = some (.cells cs t (0, 0))) (j : Nat) : w.frozen? ⟨b, j, none⟩ = false := by simp [World.frozen?, h]
theorem Z47 (b : Nat) (n : Int) (w : World) (F : Nat → Prop) (m : Mk) (h : Mkr w F b m) :
 Calls Tryz.prog 63 #[.pointer (some ⟨b, 0, none⟩), .int .i64 n] w (Z5j (Z1G m n) w F b) := by
 obtain ⟨vd, vi, h1, h7⟩ := h.box
 obtain ⟨W, hW⟩ : ∃ X, IntKind.i64.wrap (m.gone + (if n < 0 then 0 else n)) = X := ⟨_, rfl⟩
 have hs := h.setGone W
 have hm : ({ m with gone := W } : Mk) = Z1G m n := by unfold Z1G; rw [hW]
 rw [hm] at hs
 have gr := Z0m (w := w) b 2 (.int .i64 W) h7 0
 have HS := hid hs
 have HW := hid hW
 obtain ⟨c0, c1, c2⟩ := Z0Z h1
 have hf := Z0d h1 2
 have hlt := Z0b h1
 generalize hg : m.gone = g at *
 clear hm hs hW h1 h
 have e : Hid (wrap64 (g + max n 0) = W) := hid (by
  have e0 : g + max n 0 = g + (if n < 0 then 0 else n) := by split <;> omega
  rw [e0, ← HW.out, IntWalk.i64_left])
 go_enter Tryz.func63, Tryz.ntmps63
 go_wp2_with (fail)
 refine bodyPost_ret (results_none rfl _ _ _) rfl ?_
 rw [e.out]
 exact ⟨rfl, F, HS.out, gr⟩
end Go.Proofs.YtnmedachaeanbaaGreatDoor
