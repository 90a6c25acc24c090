/- Merged texts. -/
import Derived.Test.YtfnkjcodcoehcaaGreatDoorX14
import Derived.Laws.Rows
namespace Go.Proofs.YtfnkjcodcoehcaaGreatDoor
set_option maxRecDepth 100000
set_option maxHeartbeats 3200000
open Go.RowKit
open Go.Lib (hid)
set_option linter.unusedVariables false
set_option linter.unusedSimpArgs false
def PartC (w : World) (B : Nat) (v : Value) (x : ClS) : Prop :=
 OwAt w B (.slice x.As x.c.s.length x.cs) x.c.s ∧ ∀ k, wb (.slice x.As x.c.s.length x.cs) = some k → wb v ≠ some k
theorem PartC.below {w w' : World} {B : Nat} {v : Value} {x : ClS} (h : PartC w B v x) (y : Below w.heap.size w w') : PartC w' B v x := ⟨h.1.below y (Nat.le_refl _), h.2⟩
theorem PartC.base_le {w : World} {B B' : Nat} {v : Value} {x : ClS} (h : PartC w B v x) (hb : B' ≤ B) : PartC w B' v x := ⟨h.1.base_le hb, h.2⟩
theorem PartC.app {w w' : World} {B : Nat} {v v' : Value} {x : ClS} (h : PartC w B v x) (hg : w.grownBy w' (wb v)) (hv : v' = v ∧ w' = w ∨ wb v' = wb v ∨ wb v' = some w.heap.size) : PartC w' B v' x := by
 refine ⟨h.1.keep fun k hk => hg.block k (h.1.wb_lt k hk).2 (fun e => h.2 k hk e.symm), fun k hk => ?_⟩
 have hlt := (h.1.wb_lt k hk).2
 rcases hv with ⟨rfl, _⟩ | hv | hv
 ·exact h.2 k hk
 ·rw [hv]; exact h.2 k hk
 ·rw [hv]; intro e; injection e with e; omega
theorem PartC.set {w : World} {B g n c j : Nat} {u : Value} {x : ClS} (h : PartC w B (.slice (some ⟨g, 0, none⟩) n (c + 1)) x) : PartC (w.setCell ⟨g, j, none⟩ u) B (.slice (some ⟨g, 0, none⟩) n (c + 1)) x :=
 ⟨h.1.setCell (p := ⟨g, j, none⟩) (fun e => h.2 g e rfl) u, h.2⟩
def NewCls (o : List Cl) (w : World) (e : Ending) (w' : World) : Prop :=
 ∃ A c l, e = .returned (.slice A l.length c) ∧ Z0e l = o ∧ OwCs w' w.heap.size (.slice A l.length c) l ∧ (∀ x ∈ l, PartC w' w.heap.size (.slice A l.length c) x) ∧ Below w.heap.size w w'
theorem Z9b (A1 A2 : Option Addr) (n1 n2 c1 c2 : Nat) (l : List Int) (s : List At) (w : World) (hn1 : n1 = l.length) (hn2 : n2 = s.length) (h1 : Z1V w w.heap.size A1 l) (h2 : RdAt w w.heap.size A2 s) (b1 : n1 ≤ 100000000) (b2 : n2 ≤ 100000000) :
 Calls Tryz.prog 165 #[.slice A1 n1 c1, .slice A2 n2 c2] w (NewCls (l.map (fun r => ⟨r, s⟩)) w) := by
 have N1 := hid hn1
 have N2 := hid hn2
 have H1 := hid h1
 have H2 := hid h2
 clear hn1 hn2 h1 h2
 go_enter Tryz.func165, Tryz.ntmps165
 go_wp2_with (fail)
 go_loopg [5, 10] n1 (fun g v iv wr => ∃ (i : Nat) (L : List ClS), i ≤ n1 ∧ g = n1 - i ∧ iv = .int .i64 (i : Int) ∧ Z0e L = (l.take i).map (fun r => ⟨r, s⟩) ∧ OwCs wr w.heap.size v L ∧ (∀ x ∈ L, PartC wr w.heap.size v x) ∧ Below w.heap.size w wr)
 case atStart => exact ⟨0, [], by omega, rfl, rfl, rfl, Ow.nil _ _, fun x hx => (by cases hx), Below.refl _ _⟩
 case round =>
  obtain ⟨i, L, hi, hg, rfl, hL, ho, hp, y⟩ := hrel
  have HG := hid hg
  have HO := hid ho
  have HP := hid hp
  have HL := hid hL
  have LN : Hid (L.length = i) := hid (by have := congrArg List.length hL; rw [Z0s] at this; simp at this; have := N1.out; omega)
  clear hg ho hp hL
  by_cases hlt : i < n1
  ·have hl1 : i < l.length := by have := N1.out; omega
   obtain ⟨ad, r, rfl, _, _, hx1, hc1⟩ := (H1.out.ext y).el hl1
   have E := hid (show (l.take (i + 1)).map (fun r => (⟨r, s⟩ : Cl)) = (l.take i).map (fun r => ⟨r, s⟩) ++ [⟨r, s⟩] by rw [List.take_add_one, hx1]; simp)
   have z0 : wr.cell? (ad.add (i * 1)) = some (.int .i32 r) := by have := hc1 0 _ rfl; rwa [Z0v] at this
   rw [Nat.mul_one] at z0
   have hw2 : IntKind.i64.wrap ((i:Int) + 1) = (i : Int) + 1 := IntWalk.i64_in _ (by omega)
   clear hx1 hc1 hl1
   go_wp2_with (first
    | (go_at_call 143; refine (Z4t A2 n2 c2 s _ N2.out (H2.out.ext y) b2).mono ?_; rintro e w1 ⟨A3, k3, rfl, o3, y3⟩; have O3 := hid o3; have Y3 := hid y3; clear o3 y3)
    | (at_builtin; refine Z95 (m := [⟨⟨r, s⟩, A3, k3⟩]) rfl (.tmp 14) (.tmp 19) rfl rfl (by exact (HO.out.below Y3.out (Nat.le_refl _)).alloc _) _ _ 1 1 rfl rfl (by exact Z1s (enc := ClS.enc) (size := 2) _ _ ⟨⟨r, s⟩, A3, k3⟩ rfl (by simp)) (by have := LN.out; simp only [List.length_singleton]; omega) (by have := y.size; have := Y3.out.size; simp at *; omega) ?_; intro v' w' hown' hgr hv'))
   have yz := Z0a y Y3.out
   have yw := Z0K (yz.alloc yz.size _) (by have := yz.size; simp at this ⊢; omega) ((HO.out.below Y3.out (Nat.le_refl _)).alloc _) (Nat.le_refl _) hgr
   have hP' : ∀ x ∈ L ++ [(⟨⟨r, s⟩, A3, k3⟩ : ClS)], PartC w' w.heap.size v' x := fun x hx => by
    have ho0 := HO.out
    rcases List.mem_append.1 hx with hx | hx
    ·refine PartC.app ?_ hgr hv'
     exact ⟨((HP.out x hx).1.below Y3.out (Nat.le_refl _)).alloc _, (HP.out x hx).2⟩
    ·simp at hx; subst hx
     refine PartC.app ?_ hgr hv'
     refine ⟨(O3.out.base_le y.size).alloc _, fun k hk e => ?_⟩
     have h1 := (O3.out.wb_lt k hk).1
     have h2 := (ho0.wb_lt k e).2
     omega
   have E2 : Z0e (L ++ [(⟨⟨r, s⟩, A3, k3⟩ : ClS)]) = (l.take (i + 1)).map (fun r => ⟨r, s⟩) := by rw [E.out, ← HL.out]; unfold Z0e; simp
   go_wp2_with (fail)
   go_roundg (n1 - (i + 1))
   case measure => have := HG.out; omega
   case rel => exact ⟨i + 1, L ++ [⟨⟨r, s⟩, A3, k3⟩], by omega, rfl, by go_num, E2, hown', hP', yw⟩
  ·have hin : i = n1 := by omega
   subst hin
   have e : (l.take i) = l := List.take_of_length_le (by have := N1.out; omega)
   have hL := HL.out
   rw [e] at hL
   obtain ⟨A', c', rfl, _, _⟩ := HO.out.form
   have hO := HO.out
   have hP := HP.out
   have HLL := hid hL
   clear e hL
   go_wp2_with (fail)
   go_ret
   exact ⟨A', c', L, rfl, HLL.out, hO, hP, y⟩
theorem Z7F (A : Option Addr) (n c : Nat) (l : List ClS) (w : World) (hn : n = l.length) (h : RdCl w w.heap.size A l) (hb : n ≤ 100000000) (hs : ∀ x ∈ l, x.c.s.length ≤ 100000000) :
 Calls Tryz.prog 63 #[.slice A n c] w (NewCls (Z0e l) w) := by
 have N := hid hn
 have HS := hid hs
 have HR := hid h.1
 have HP := hid h.2
 clear hn hs h
 go_enter Tryz.func63, Tryz.ntmps63
 go_wp2_with (go_at_call 142; refine Hid.out ?_)
 refine hid ?_
 refine (Z89 A n c l w N.out HR.out (by omega)).mono ?_
 rintro e w1 ⟨A1, k1, rfl, o1, y1⟩
 have O1 := hid o1
 have Y1 := hid y1
 have LB := hid (show l.length ≤ 100000000 by have := N.out; omega)
 clear o1 y1
 go_wp2_with (fail)
 go_loopg [9] l.length (fun g iv wr => ∃ (m : Nat) (D : List ClS), m ≤ l.length ∧ g = l.length - m ∧ iv = .int .i64 (m : Int) ∧ D.length = m ∧ Z0e D = Z0e (l.take m) ∧
  OwCs wr w.heap.size (.slice A1 l.length k1) (D ++ l.drop m) ∧ (∀ x ∈ D, PartC wr w.heap.size (.slice A1 l.length k1) x) ∧ Below w.heap.size w wr)
 case atStart => exact ⟨0, [], by omega, rfl, rfl, rfl, rfl, O1.out, fun x hx => (by cases hx), Y1.out⟩
 case round =>
  obtain ⟨m, D, hm, hg, rfl, hD, hDo, ho, hDp, y⟩ := hrel
  have HG := hid hg
  clear hg
  by_cases hlt : m < l.length
  ·obtain ⟨x, hxi⟩ : ∃ x, l[m]? = some x := ⟨l[m], by rw [List.getElem?_eq_getElem hlt]⟩
   have hdrop : l.drop m = x :: l.drop (m + 1) := by
    rw [List.drop_eq_getElem_cons hlt]; rw [List.getElem?_eq_getElem hlt] at hxi; injection hxi with hxi; rw [hxi]
   have hxm := List.mem_of_getElem? hxi
   rw [hdrop] at ho
   have hlen : (D ++ x :: l.drop (m + 1)).length = l.length := by rw [List.length_append, hD, List.length_cons, List.length_drop]; omega
   have hi : m < (D ++ x :: l.drop (m + 1)).length := by omega
   obtain ⟨g, cur, hA, hq1, hBg, hgb, hq2, hq3, hq4, hq5⟩ := ho.row (by omega)
   have hk1 : 0 < k1 := by omega
   clear hq1 hq2 hq3 hq4 hq5
   subst hA
   obtain ⟨ad, hA2, _, hcx⟩ := (ho.rd ClS.enc_len).at_ hi
   injection hA2 with hA2
   subst hA2
   rw [Z40] at hcx
   have hx : (D ++ x :: l.drop (m + 1))[m] = x := by simp [List.getElem_append_right, hD]
   rw [hx] at hcx
   have p1 := hid ((HP.out x hxm).ext y)
   have hS := hid (HS.out x hxm)
   obtain ⟨k2, rfl⟩ : ∃ k2, k1 = k2 + 1 := ⟨k1 - 1, by omega⟩
   have HDP := hid hDp
   have hglt := Z0c hgb
   have HT := hid (show Z0e (D ++ [x]) = Z0e (l.take (m + 1)) by
    rw [List.take_add_one, hxi]; unfold Z0e at hDo ⊢; rw [List.map_append, List.map_append, hDo]; rfl)
   have HO := hid ho
   have HGB := hid hgb
   have HD := hid hD
   obtain ⟨⟨r, s⟩, As, cs⟩ := x
   obtain ⟨z0, z1⟩ := Z03 hcx
   have hfr : ∀ j, wr.frozen? ⟨g, j, none⟩ = false := fun j => Z0g hgb j
   have e1 : (m : Int) < (l.length : Int) := by omega
   have hw2 : IntKind.i64.wrap ((m:Int) + 1) = (m : Int) + 1 := IntWalk.i64_in _ (by have := LB.out; omega)
   clear hcx hx ho hDp hDo hxi hdrop hgb hD hlen hi hxm z0
   go_wp2_with (go_at_call 143; refine Hid.out ?_)
   refine hid ?_
   refine (Z4t As s.length cs s wr rfl p1.out hS.out).mono ?_
   rintro e w2 ⟨A2, c2, rfl, o2, y2⟩
   have O2 := hid o2
   have Y2 := hid y2
   have hgb2 := (y2.block g hglt).trans HGB.out
   have hf2 : w2.frozen? ⟨g, m * 2 + 1, none⟩ = false := Z0g hgb2 _
   have HC2 : Hid (∃ cur', w2.heap[g]? = some (.cells cur' 38 (0, 0))) := hid ⟨_, hgb2⟩
   have z1' : w2.cell? ⟨g, m * 2 + 1, none⟩ = some (.slice As s.length cs) := (y2.cell (p := ⟨g, m * 2 + 1, none⟩) hglt).trans z1
   clear o2 y2 hgb2
   go_wp2_with (fail)
   have ho2 := HO.out.below Y2.out (Nat.le_refl _)
   have hS3 := Ow.setEl ClS.enc_len ho2 (i := m) (j := 1) (u := .slice A2 s.length c2) (a' := ⟨⟨r, s⟩, A2, c2⟩) (by simp; have := HD.out; omega) (by omega) (by simp [List.getElem_append_right, HD.out, ClS.enc])
   rw [List.set_append_right _ _ (by have := HD.out; omega), show m - D.length = 0 by have := HD.out; omega, List.set_cons_zero] at hS3
   have yz := (Z0a y Y2.out).setCell (p := ⟨g, m * 2 + 1, none⟩) hBg (.slice A2 s.length c2)
   have hP3 : ∀ x ∈ D ++ [(⟨⟨r, s⟩, A2, c2⟩ : ClS)], PartC (w2.setCell ⟨g, m * 2 + 1, none⟩ (.slice A2 s.length c2)) w.heap.size (.slice (some ⟨g, 0, none⟩) l.length (k2 + 1)) x := fun x hx => by
    rcases List.mem_append.1 hx with hx | hx
    ·exact ((HDP.out x hx).below Y2.out).set
    ·simp at hx; subst hx
     refine PartC.set ⟨O2.out.base_le y.size, fun k hk e => ?_⟩
     have h1 := (O2.out.wb_lt k hk).1
     injection e with e
     have e : g = k := e
     omega
   go_roundg (l.length - (m + 1))
   case measure => have := HG.out; omega
   case rel => exact ⟨m + 1, D ++ [⟨⟨r, s⟩, A2, c2⟩], by omega, rfl, by go_num, by rw [List.length_append, HD.out]; rfl, by rw [← HT.out]; simp [Z0e], by rw [List.append_assoc]; exact hS3, hP3, yz⟩
  ·have hml : m = l.length := by omega
   subst hml
   have HO := hid ho
   have HDP := hid hDp
   have HDO := hid hDo
   have HD := hid hD
   clear ho hDp hDo hD
   go_wp2_with (fail)
   go_ret
   have hd : l.drop l.length = [] := by simp
   have ho := HO.out
   have hp := HDP.out
   rw [hd, List.append_nil] at ho
   have hl : l.length = D.length := HD.out.symm
   rw [hl] at ho hp ⊢
   exact ⟨A1, k1, D, rfl, by rw [HDO.out, List.take_length], ho, hp, y⟩
theorem Tryz.unCl : Tryz.prog.underlying 38 = some (.struct (Tryz.prog.fieldsOf 38)) := by kernel_rfl
theorem Z97 (s : Nat) (l : List Ky) (r : Int) (As Ap : Option Addr) (n cs np cp : Nat) (set : List At) (p : List Ch) (w : World) (hS : Sch w s l) (hn : n = set.length) (hp : np = p.length) (h1 : RdAt w w.heap.size As set) (h2 : RdCh w w.heap.size Ap p)
 (b1 : n ≤ 100000000) (b2 : np ≤ 100000000) (g1 : n ≤ cs) (g2 : cs ≤ maxLen) :
 Calls Tryz.prog 37 #[.pointer (some ⟨s, 0, none⟩), .agg #[.int .i32 r, .slice As n cs], .slice Ap np cp] w
  fun e w' => ∃ A c, e = .returned (.agg #[.int .i32 r, .slice A (actC l ⟨r, set⟩ p).s.length c]) ∧ OwAt w' w.heap.size (.slice A (actC l ⟨r, set⟩ p).s.length c) (actC l ⟨r, set⟩ p).s ∧ Below w.heap.size w w' := by
 have ya := Z0b w (.cells #[.int .i32 r, .slice As n cs] 38)
 have yb := Z0b (w.alloc (.cells #[.int .i32 r, .slice As n cs] 38)) (.cells #[.int .i32 0, .slice none 0 0] 38)
 have g1' := heap_alloc_new w (.cells #[.int .i32 r, .slice As n cs] 38)
 have g2' := heap_alloc_new (w.alloc (.cells #[.int .i32 r, .slice As n cs] 38)) (.cells #[.int .i32 0, .slice none 0 0] 38)
 have G1 := (yb.block w.heap.size (by simp)).trans g1'
 rw [World.size_alloc] at g2'
 have y := Z0a ya yb
 have N := hid hn
 have P := hid hp
 have HR : Hid (∃ X, (actC l ⟨r, set⟩ p).s = X ∧ Z04 (Z1t l (r == 10) p) set = X) := hid ⟨_, rfl, rfl⟩
 obtain ⟨X, hX1, hX2⟩ := HR.out
 rw [hX1]
 have HX := hid hX2
 clear ya yb g1' hX1 hX2 HR hn hp
 have hbp : (Z1t l (r == 10) p).length ≤ np := by rw [P.out]; exact List.length_filter_le _ _
 have BND : Hid (np ≤ 100000000) := hid b2
 go_enter Tryz.func37, Tryz.ntmps37
 go_wp2_with (fail)
 obtain ⟨sz, hsz⟩ : ∃ z, w.heap.size = z := ⟨_, rfl⟩
 have HSZ := hid hsz
 generalize ((w.alloc (.cells #[.int .i32 r, .slice As n cs] 38)).alloc (.cells #[.int .i32 0, .slice none 0 0] 38)) = v at *
 have Y := hid y
 have HG1 := hid G1
 have HG2 := hid g2'
 obtain ⟨a0, a1⟩ := Z34 G1
 obtain ⟨e0, e1⟩ := Z34 g2'
 have hlt1 := Z0c G1
 have hlt2 := Z0c g2'
 rw [hsz] at a0 a1 e0 e1 hlt1 hlt2 ⊢
 have SF : Hid (∀ u, Below v.heap.size v u → (u.cell? ⟨sz, 0, none⟩ = some (.int .i32 r) ∧ u.cell? ⟨sz, 1, none⟩ = some (.slice As n cs)) ∧ (u.cell? ⟨sz + 1, 0, none⟩ = some (.int .i32 0) ∧ u.cell? ⟨sz + 1, 1, none⟩ = some (.slice none 0 0)) ∧ u.heap[sz + 1]? = some (.cells #[.int .i32 0, .slice none 0 0] 38 (0, 0))) := hid (fun u hu => by
  have q1 := (hu.block _ (by rw [← HSZ.out] at hlt1; exact hlt1)).trans HG1.out
  have q2 := (hu.block _ (by rw [← HSZ.out] at hlt2; exact hlt2)).trans HG2.out
  rw [HSZ.out] at q1 q2
  exact ⟨Z34 q1, Z34 q2, q2⟩)
 have hf0 : v.frozen? ⟨sz + 1, 0, none⟩ = false := Z0g (SF.out v (Below.refl _ _)).2.2 0
 clear G1 g2' hlt1 hlt2 y hsz
 go_region_law (first
  | (refine Z0M rfl 94 [.tmp 11, .tmp 12, .tmp 15] #[26, 48, 4] rfl Tryz.f94 (by kernel_rfl) (by kernel_rfl) (by kernel_rfl) [.pointer (some ⟨s, 0, none⟩), .slice Ap np cp, .bool (r == 10)] (by rfl) (Y4a s l (r == 10) Ap np cp p v.drew P.out (h2.ext (Z0j Y.out)) b2 (hS.ext (Z0j Y.out))) ?_
     rintro e w3 ⟨A3, k3, rfl, o3, y3⟩
     refine ⟨_, rfl, ?_⟩
     have O3 := hid o3
     have Y3 : Hid (Below v.heap.size v w3) := hid ((Z0j (Below.refl _ _)).trans y3)
     obtain ⟨⟨c0, c1⟩, ⟨c2, c3⟩, c4⟩ := SF.out w3 Y3.out
     clear o3 y3)
  | (refine Z0M rfl 93 [.tmp 10, .tmp 16] #[36, 48] rfl Tryz.f93 (by kernel_rfl) (by kernel_rfl) (by kernel_rfl) [.slice As n cs, .slice A3 (Z1t l (r == 10) p).length k3] (by rfl) (Y2c As A3 n (Z1t l (r == 10) p).length cs k3 set (Z1t l (r == 10) p) w3 N.out rfl (h1.ext (Z0a Y.out Y3.out)) (O3.out.rd Ch.enc_len) b1 (by have := BND.out; omega) g1 g2) ?_
     rw [HX.out]
     rintro e w4 ⟨A4, k4, rfl, o4, y4⟩
     refine ⟨_, rfl, ?_⟩
     have O4 := hid o4
     have Y4 : Hid (Below v.heap.size v w4) := hid (Z0a Y3.out y4)
     obtain ⟨⟨d0, d1⟩, ⟨d2, d3⟩, d4⟩ := SF.out w4 Y4.out
     have hf4 : w4.frozen? ⟨sz + 1, 0, none⟩ = false := Z0g d4 0
     have hf5 : w4.frozen? ⟨sz + 1, 1, none⟩ = false := Z0g d4 1
     clear o4 y4))
 all_goals
  go_wp2_with (fail)
  have q1 : ((w4.setCell ⟨sz + 1, 0, none⟩ (.int .i32 r)).setCell ⟨sz + 1, 1, none⟩ (.slice A4 X.length k4)).heap[sz + 1]? = some (.cells #[.int .i32 r, .slice A4 X.length k4] 38 (0, 0)) := by
   have h1 := Z0i (j := 0) d4 (.int .i32 r)
   have h2 := Z0i (j := 1) h1 (.slice A4 X.length k4)
   simpa using h2
  refine bodyPost_ret (results_cell_row (P := Tryz.prog) rfl _ _ (sz + 1) 38 #[.int .i32 r, .slice A4 X.length k4] (0, 0) _ rfl q1 Tryz.unCl rfl Tryz.szCl) rfl ?_
  have ha := (O4.out.base_le (B := w.heap.size) (by have := Y3.out.size; have := Y.out.size; omega))
  have hne : ∀ k, wb (.slice A4 X.length k4) = some k → k ≠ sz + 1 := fun k hk => by
   have := (O4.out.wb_lt k hk).1
   have := Z0c c4
   omega
  refine ⟨A4, k4, rfl, (ha.setCell (p := ⟨sz + 1, 0, none⟩) (fun e => hne _ e rfl) _).setCell (p := ⟨sz + 1, 1, none⟩) (fun e => hne _ e rfl) _, ?_⟩
  exact ((Z0a Y.out Y4.out).setCell (p := ⟨sz + 1, 0, none⟩) (by have := HSZ.out; simp only; omega) _).setCell (p := ⟨sz + 1, 1, none⟩) (by have := HSZ.out; simp only; omega) _
end Go.Proofs.YtfnkjcodcoehcaaGreatDoor
