/- Merged texts: CellNew, ApplyCell. -/
import Derived.Test.YtfnkjcodcoehcaaGreatDoorY12
import Derived.Test.YtfnkjcodcoehcaaGreatDoorY9
import Derived.Test.YtfnkjcodcoehcaaGreatDoorY7
import Derived.Deep.RegionHeld3
import Derived.Laws.Rows
namespace Go.Proofs.YtfnkjcodcoehcaaGreatDoor
open Go.RowKit
set_option linter.unusedVariables false
set_option linter.unusedSimpArgs false

def PartC (w : World) (B : Nat) (v : Value) (x : ClS) : Prop :=
  OwAt w B (.slice x.As x.c.s.length x.cs) x.c.s ∧ ∀ k, wb (.slice x.As x.c.s.length x.cs) = some k → wb v ≠ some k
theorem PartC.below {w w' : World} {B : Nat} {v : Value} {x : ClS} (h : PartC w B v x) (y : Below w.heap.size w w') : PartC w' B v x := ⟨h.1.below y (Nat.le_refl _), h.2⟩
theorem PartC.app {w w' : World} {B : Nat} {v v' : Value} {x : ClS} (h : PartC w B v x) (hg : w.grownBy w' (wb v)) (hv : v' = v ∧ w' = w ∨ wb v' = wb v ∨ wb v' = some w.heap.size) : PartC w' B v' x := by
  refine ⟨h.1.keep fun k hk => hg.block k (h.1.wb_lt k hk).2 (fun e => h.2 k hk e.symm), fun k hk => ?_⟩
  have hlt := (h.1.wb_lt k hk).2
  rcases hv with ⟨rfl, _⟩ | hv | hv
  · exact h.2 k hk
  · rw [hv]; exact h.2 k hk
  · rw [hv]; intro e; injection e with e; omega
theorem PartC.set {w : World} {B g n c j : Nat} {u : Value} {x : ClS} (h : PartC w B (.slice (some ⟨g, 0, none⟩) n (c + 1)) x) : PartC (w.setCell ⟨g, j, none⟩ u) B (.slice (some ⟨g, 0, none⟩) n (c + 1)) x :=
  ⟨h.1.setCell (p := ⟨g, j, none⟩) (fun e => h.2 g e rfl) u, h.2⟩
def NewCls (o : List Cl) (w : World) (e : Ending) (w' : World) : Prop :=
  ∃ A c l, e = .returned (.slice A l.length c) ∧ clsOf l = o ∧ OwCs w' w.heap.size (.slice A l.length c) l ∧ (∀ x ∈ l, PartC w' w.heap.size (.slice A l.length c) x) ∧ Below w.heap.size w w'

set_option maxRecDepth 100000 in
set_option maxHeartbeats 1600000 in
theorem cellsOf_any (A1 A2 : Option Addr) (n1 n2 c1 c2 : Nat) (l : List Int) (s : List At) (w : World) (hn1 : n1 = l.length) (hn2 : n2 = s.length) (h1 : RdI32 w w.heap.size A1 l) (h2 : RdAt w w.heap.size A2 s) (b1 : n1 ≤ 100000000) (b2 : n2 ≤ 100000000) :
    Calls Tryz.prog 165 #[.slice A1 n1 c1, .slice A2 n2 c2] w (NewCls (l.map (fun r => ⟨r, s⟩)) w) := by
  have N1 := Lib.hid hn1
  have N2 := Lib.hid hn2
  have H1 := Lib.hid h1
  have H2 := Lib.hid h2
  clear hn1 hn2 h1 h2
  go_enter Tryz.func165, Tryz.ntmps165
  go_wp2_with (fail)
  go_loopg [5, 10] n1 (fun g v iv wr => ∃ (i : Nat) (L : List ClS), i ≤ n1 ∧ g = n1 - i ∧ iv = .int .i64 (i : Int) ∧ clsOf L = (l.take i).map (fun r => ⟨r, s⟩) ∧ OwCs wr w.heap.size v L ∧ (∀ x ∈ L, PartC wr w.heap.size v x) ∧ Below w.heap.size w wr)
  case atStart => exact ⟨0, [], by omega, rfl, rfl, rfl, Ow.nil _ _, fun x hx => (by cases hx), Below.refl _ _⟩
  case round =>
    obtain ⟨i, L, hi, hg, rfl, hL, ho, hp, y⟩ := hrel
    have HG := Lib.hid hg
    have HO := Lib.hid ho
    have HP := Lib.hid hp
    have HL := Lib.hid hL
    have LN : Hid (L.length = i) := Lib.hid (by have := congrArg List.length hL; rw [clsOf_len] at this; simp at this; have := N1.out; omega)
    clear hg ho hp hL
    by_cases hlt : i < n1
    · have hl1 : i < l.length := by have := N1.out; omega
      obtain ⟨ad, r, rfl, _, _, hx1, hc1⟩ := (H1.out.ext y).el hl1
      have E := Lib.hid (show (l.take (i + 1)).map (fun r => (⟨r, s⟩ : Cl)) = (l.take i).map (fun r => ⟨r, s⟩) ++ [⟨r, s⟩] by rw [List.take_add_one, hx1]; simp)
      have z0 : wr.cell? (ad.add (i * 1)) = some (.int .i32 r) := by have := hc1 0 _ rfl; rwa [add_zero'] at this
      rw [Nat.mul_one] at z0
      have hw2 : IntKind.i64.wrap ((i:Int) + 1) = (i : Int) + 1 := IntWalk.i64_in _ (by omega)
      clear hx1 hc1 hl1
      go_wp2_with (first
        | (go_at_call 143; refine (copy_any A2 n2 c2 s _ N2.out (H2.out.ext y) b2).mono ?_; rintro e w1 ⟨A3, k3, rfl, o3, y3⟩; have O3 := Lib.hid o3; have Y3 := Lib.hid y3; clear o3 y3)
        | (at_builtin; refine app_cs (m := [⟨⟨r, s⟩, A3, k3⟩]) rfl (.tmp 14) (.tmp 19) rfl rfl (by exact (HO.out.below Y3.out (Nat.le_refl _)).alloc _) _ _ 1 1 rfl rfl (by exact rd_one_at (enc := ClS.enc) (size := 2) _ _ ⟨⟨r, s⟩, A3, k3⟩ rfl (by simp)) (by have := LN.out; simp only [List.length_singleton]; omega) (by have := y.size; have := Y3.out.size; simp at *; omega) ?_; intro v' w' hown' hgr hv'))
      have yz := ext_trans y Y3.out
      have yw := below_app (yz.alloc yz.size _) (by have := yz.size; simp at this ⊢; omega) ((HO.out.below Y3.out (Nat.le_refl _)).alloc _) (Nat.le_refl _) hgr
      have hP' : ∀ x ∈ L ++ [(⟨⟨r, s⟩, A3, k3⟩ : ClS)], PartC w' w.heap.size v' x := fun x hx => by
        have ho0 := HO.out
        rcases List.mem_append.1 hx with hx | hx
        · refine PartC.app ?_ hgr hv'
          exact ⟨((HP.out x hx).1.below Y3.out (Nat.le_refl _)).alloc _, (HP.out x hx).2⟩
        · simp at hx; subst hx
          refine PartC.app ?_ hgr hv'
          refine ⟨(O3.out.base_le y.size).alloc _, fun k hk e => ?_⟩
          have h1 := (O3.out.wb_lt k hk).1
          have h2 := (ho0.wb_lt k e).2
          omega
      have E2 : clsOf (L ++ [(⟨⟨r, s⟩, A3, k3⟩ : ClS)]) = (l.take (i + 1)).map (fun r => ⟨r, s⟩) := by rw [E.out, ← HL.out]; unfold clsOf; simp
      go_wp2_with (fail)
      go_roundg (n1 - (i + 1))
      case measure => have := HG.out; omega
      case rel => exact ⟨i + 1, L ++ [⟨⟨r, s⟩, A3, k3⟩], by omega, rfl, by go_num, E2, hown', hP', yw⟩
    · have hin : i = n1 := by omega
      subst hin
      have e : (l.take i) = l := List.take_of_length_le (by have := N1.out; omega)
      have hL := HL.out
      rw [e] at hL
      obtain ⟨A', c', rfl, _, _⟩ := HO.out.form
      have hO := HO.out
      have hP := HP.out
      have HLL := Lib.hid hL
      clear e hL
      go_wp2_with (fail)
      go_ret
      exact ⟨A', c', L, rfl, HLL.out, hO, hP, y⟩

set_option maxRecDepth 100000 in
set_option maxHeartbeats 1600000 in
theorem copyCells_any (A : Option Addr) (n c : Nat) (l : List ClS) (w : World) (hn : n = l.length) (h : RdCl w w.heap.size A l) (hb : n ≤ 100000000) (hs : ∀ x ∈ l, x.c.s.length ≤ 100000000) :
    Calls Tryz.prog 63 #[.slice A n c] w (NewCls (clsOf l) w) := by
  have N := Lib.hid hn
  have HS := Lib.hid hs
  have HR := Lib.hid h.1
  have HP := Lib.hid h.2
  clear hn hs h
  go_enter Tryz.func63, Tryz.ntmps63
  go_wp2_with (go_at_call 142; refine Hid.out ?_)
  refine Lib.hid ?_
  refine (cloneCs_any A n c l w N.out HR.out (by omega)).mono ?_
  rintro e w1 ⟨A1, k1, rfl, o1, y1⟩
  have O1 := Lib.hid o1
  have Y1 := Lib.hid y1
  have LB := Lib.hid (show l.length ≤ 100000000 by have := N.out; omega)
  clear o1 y1
  go_wp2_with (fail)
  go_loopg [9] l.length (fun g iv wr => ∃ (m : Nat) (D : List ClS), m ≤ l.length ∧ g = l.length - m ∧ iv = .int .i64 (m : Int) ∧ D.length = m ∧ clsOf D = clsOf (l.take m) ∧
    OwCs wr w.heap.size (.slice A1 l.length k1) (D ++ l.drop m) ∧ (∀ x ∈ D, PartC wr w.heap.size (.slice A1 l.length k1) x) ∧ Below w.heap.size w wr)
  case atStart => exact ⟨0, [], by omega, rfl, rfl, rfl, rfl, O1.out, fun x hx => (by cases hx), Y1.out⟩
  case round =>
    obtain ⟨m, D, hm, hg, rfl, hD, hDo, ho, hDp, y⟩ := hrel
    have HG := Lib.hid hg
    clear hg
    by_cases hlt : m < l.length
    · obtain ⟨x, hxi⟩ : ∃ x, l[m]? = some x := ⟨l[m], by rw [List.getElem?_eq_getElem hlt]⟩
      have hdrop : l.drop m = x :: l.drop (m + 1) := by
        rw [List.drop_eq_getElem_cons hlt]; rw [List.getElem?_eq_getElem hlt] at hxi; injection hxi with hxi; rw [hxi]
      have hxm := List.mem_of_getElem? hxi
      rw [hdrop] at ho
      have hlen : (D ++ x :: l.drop (m + 1)).length = l.length := by rw [List.length_append, hD, List.length_cons, List.length_drop]; omega
      have hi : m < (D ++ x :: l.drop (m + 1)).length := by omega
      obtain ⟨g, cur, hA, hq1, hBg, hgb, hq2, hq3, hq4, hq5⟩ := ho.row (by omega)
      have hk1 : 0 < k1 := by omega
      clear hq1 hq2 hq3 hq4 hq5
      subst hA
      obtain ⟨ad, hA2, _, hcx⟩ := (ho.rd ClS.enc_len).at_ hi
      injection hA2 with hA2
      subst hA2
      rw [add_row] at hcx
      have hx : (D ++ x :: l.drop (m + 1))[m] = x := by simp [List.getElem_append_right, hD]
      rw [hx] at hcx
      have p1 := Lib.hid ((HP.out x hxm).ext y)
      have hS := Lib.hid (HS.out x hxm)
      obtain ⟨k2, rfl⟩ : ∃ k2, k1 = k2 + 1 := ⟨k1 - 1, by omega⟩
      have HDP := Lib.hid hDp
      have hglt := lt_of_some hgb
      have HT := Lib.hid (show clsOf (D ++ [x]) = clsOf (l.take (m + 1)) by
        rw [List.take_add_one, hxi]; unfold clsOf at hDo ⊢; rw [List.map_append, List.map_append, hDo]; rfl)
      have HO := Lib.hid ho
      have HGB := Lib.hid hgb
      have HD := Lib.hid hD
      obtain ⟨⟨r, s⟩, As, cs⟩ := x
      obtain ⟨z0, z1⟩ := cl_cells hcx
      have hfr : ∀ j, wr.frozen? ⟨g, j, none⟩ = false := fun j => box_thaw hgb j
      have e1 : (m : Int) < (l.length : Int) := by omega
      have hw2 : IntKind.i64.wrap ((m:Int) + 1) = (m : Int) + 1 := IntWalk.i64_in _ (by have := LB.out; omega)
      clear hcx hx ho hDp hDo hxi hdrop hgb hD hlen hi hxm z0
      go_wp2_with (go_at_call 143; refine Hid.out ?_)
      refine Lib.hid ?_
      refine (copy_any As s.length cs s wr rfl p1.out hS.out).mono ?_
      rintro e w2 ⟨A2, c2, rfl, o2, y2⟩
      have O2 := Lib.hid o2
      have Y2 := Lib.hid y2
      have hgb2 := (y2.block g hglt).trans HGB.out
      have hf2 : w2.frozen? ⟨g, m * 2 + 1, none⟩ = false := box_thaw hgb2 _
      have HC2 : Hid (∃ cur', w2.heap[g]? = some (.cells cur' 38 (0, 0))) := Lib.hid ⟨_, hgb2⟩
      have z1' : w2.cell? ⟨g, m * 2 + 1, none⟩ = some (.slice As s.length cs) := (y2.cell (p := ⟨g, m * 2 + 1, none⟩) hglt).trans z1
      clear o2 y2 hgb2
      go_wp2_with (fail)
      have ho2 := HO.out.below Y2.out (Nat.le_refl _)
      have hS3 := Ow.setEl ClS.enc_len ho2 (i := m) (j := 1) (u := .slice A2 s.length c2) (a' := ⟨⟨r, s⟩, A2, c2⟩) (by simp; have := HD.out; omega) (by omega) (by simp [List.getElem_append_right, HD.out, ClS.enc])
      rw [List.set_append_right _ _ (by have := HD.out; omega), show m - D.length = 0 by have := HD.out; omega, List.set_cons_zero] at hS3
      have yz := (ext_trans y Y2.out).setCell (p := ⟨g, m * 2 + 1, none⟩) hBg (.slice A2 s.length c2)
      have hP3 : ∀ x ∈ D ++ [(⟨⟨r, s⟩, A2, c2⟩ : ClS)], PartC (w2.setCell ⟨g, m * 2 + 1, none⟩ (.slice A2 s.length c2)) w.heap.size (.slice (some ⟨g, 0, none⟩) l.length (k2 + 1)) x := fun x hx => by
        rcases List.mem_append.1 hx with hx | hx
        · exact ((HDP.out x hx).below Y2.out).set
        · simp at hx; subst hx
          refine PartC.set ⟨O2.out.base_le y.size, fun k hk e => ?_⟩
          have h1 := (O2.out.wb_lt k hk).1
          injection e with e
          have e : g = k := e
          omega
      go_roundg (l.length - (m + 1))
      case measure => have := HG.out; omega
      case rel => exact ⟨m + 1, D ++ [⟨⟨r, s⟩, A2, c2⟩], by omega, rfl, by go_num, by rw [List.length_append, HD.out]; rfl, by rw [← HT.out]; simp [clsOf], by rw [List.append_assoc]; exact hS3, hP3, yz⟩
    · have hml : m = l.length := by omega
      subst hml
      have HO := Lib.hid ho
      have HDP := Lib.hid hDp
      have HDO := Lib.hid hDo
      have HD := Lib.hid hD
      clear ho hDp hDo hD
      go_wp2_with (fail)
      go_ret
      have hd : l.drop l.length = [] := by simp
      have ho := HO.out
      have hp := HDP.out
      rw [hd, List.append_nil] at ho
      have hl : l.length = D.length := HD.out.symm
      rw [hl] at ho hp ⊢
      exact ⟨A1, k1, D, rfl, by rw [HDO.out, List.take_length], ho, hp, y⟩

theorem Tryz.unCl : Tryz.prog.underlying 38 = some (.struct (Tryz.prog.fieldsOf 38)) := by kernel_rfl
set_option maxRecDepth 100000 in
set_option maxHeartbeats 3200000 in
theorem cell_any (s : Nat) (l : List Ky) (r : Int) (As Ap : Option Addr) (n cs np cp : Nat) (set : List At) (p : List Ch) (w : World) (hS : Sch w s l) (hn : n = set.length) (hp : np = p.length) (h1 : RdAt w w.heap.size As set) (h2 : RdCh w w.heap.size Ap p)
    (b1 : n ≤ 100000000) (b2 : np ≤ 100000000) (g1 : n ≤ cs) (g2 : cs ≤ maxLen) :
    Calls Tryz.prog 37 #[.pointer (some ⟨s, 0, none⟩), .agg #[.int .i32 r, .slice As n cs], .slice Ap np cp] w
      fun e w' => ∃ A c, e = .returned (.agg #[.int .i32 r, .slice A (actC l ⟨r, set⟩ p).s.length c]) ∧ OwAt w' w.heap.size (.slice A (actC l ⟨r, set⟩ p).s.length c) (actC l ⟨r, set⟩ p).s ∧ Below w.heap.size w w' := by
  have ya := ext_alloc w (.cells #[.int .i32 r, .slice As n cs] 38)
  have yb := ext_alloc (w.alloc (.cells #[.int .i32 r, .slice As n cs] 38)) (.cells #[.int .i32 0, .slice none 0 0] 38)
  have g1' := heap_alloc_new w (.cells #[.int .i32 r, .slice As n cs] 38)
  have g2' := heap_alloc_new (w.alloc (.cells #[.int .i32 r, .slice As n cs] 38)) (.cells #[.int .i32 0, .slice none 0 0] 38)
  have G1 := (yb.block w.heap.size (by simp)).trans g1'
  rw [World.size_alloc] at g2'
  have y := ext_trans ya yb
  have N := Lib.hid hn
  have P := Lib.hid hp
  have HR : Hid (∃ X, (actC l ⟨r, set⟩ p).s = X ∧ applyP (partP l (r == 10) p) set = X) := Lib.hid ⟨_, rfl, rfl⟩
  obtain ⟨X, hX1, hX2⟩ := HR.out
  rw [hX1]
  have HX := Lib.hid hX2
  clear ya yb g1' hX1 hX2 HR hn hp
  have hbp : (partP l (r == 10) p).length ≤ np := by rw [P.out]; exact List.length_filter_le _ _
  have BND : Hid (np ≤ 100000000) := Lib.hid b2
  go_enter Tryz.func37, Tryz.ntmps37
  go_wp2_with (fail)
  obtain ⟨sz, hsz⟩ : ∃ z, w.heap.size = z := ⟨_, rfl⟩
  have HSZ := Lib.hid hsz
  generalize ((w.alloc (.cells #[.int .i32 r, .slice As n cs] 38)).alloc (.cells #[.int .i32 0, .slice none 0 0] 38)) = v at *
  have Y := Lib.hid y
  have HG1 := Lib.hid G1
  have HG2 := Lib.hid g2'
  obtain ⟨a0, a1⟩ := box_cl G1
  obtain ⟨e0, e1⟩ := box_cl g2'
  have hlt1 := lt_of_some G1
  have hlt2 := lt_of_some g2'
  rw [hsz] at a0 a1 e0 e1 hlt1 hlt2 ⊢
  have SF : Hid (∀ u, Below v.heap.size v u → (u.cell? ⟨sz, 0, none⟩ = some (.int .i32 r) ∧ u.cell? ⟨sz, 1, none⟩ = some (.slice As n cs)) ∧ (u.cell? ⟨sz + 1, 0, none⟩ = some (.int .i32 0) ∧ u.cell? ⟨sz + 1, 1, none⟩ = some (.slice none 0 0)) ∧ u.heap[sz + 1]? = some (.cells #[.int .i32 0, .slice none 0 0] 38 (0, 0))) := Lib.hid (fun u hu => by
    have q1 := (hu.block _ (by rw [← HSZ.out] at hlt1; exact hlt1)).trans HG1.out
    have q2 := (hu.block _ (by rw [← HSZ.out] at hlt2; exact hlt2)).trans HG2.out
    rw [HSZ.out] at q1 q2
    exact ⟨box_cl q1, box_cl q2, q2⟩)
  have hf0 : v.frozen? ⟨sz + 1, 0, none⟩ = false := box_thaw (SF.out v (Below.refl _ _)).2.2 0
  clear G1 g2' hlt1 hlt2 y hsz
  go_region_law (first
    | (refine step_fn rfl 94 [.tmp 11, .tmp 12, .tmp 15] #[26, 48, 4] rfl Tryz.f94 (by kernel_rfl) (by kernel_rfl) (by kernel_rfl) [.pointer (some ⟨s, 0, none⟩), .slice Ap np cp, .bool (r == 10)] (by rfl) (part_any s l (r == 10) Ap np cp p v.drew P.out (h2.ext (up_drew Y.out)) b2 (hS.ext (up_drew Y.out))) ?_
       rintro e w3 ⟨A3, k3, rfl, o3, y3⟩
       refine ⟨_, rfl, ?_⟩
       have O3 := Lib.hid o3
       have Y3 : Hid (Below v.heap.size v w3) := Lib.hid ((up_drew (Below.refl _ _)).trans y3)
       obtain ⟨⟨c0, c1⟩, ⟨c2, c3⟩, c4⟩ := SF.out w3 Y3.out
       clear o3 y3)
    | (refine step_fn rfl 93 [.tmp 10, .tmp 16] #[36, 48] rfl Tryz.f93 (by kernel_rfl) (by kernel_rfl) (by kernel_rfl) [.slice As n cs, .slice A3 (partP l (r == 10) p).length k3] (by rfl) (apply_any As A3 n (partP l (r == 10) p).length cs k3 set (partP l (r == 10) p) w3 N.out rfl (h1.ext (ext_trans Y.out Y3.out)) (O3.out.rd Ch.enc_len) b1 (by have := BND.out; omega) g1 g2) ?_
       rw [HX.out]
       rintro e w4 ⟨A4, k4, rfl, o4, y4⟩
       refine ⟨_, rfl, ?_⟩
       have O4 := Lib.hid o4
       have Y4 : Hid (Below v.heap.size v w4) := Lib.hid (ext_trans Y3.out y4)
       obtain ⟨⟨d0, d1⟩, ⟨d2, d3⟩, d4⟩ := SF.out w4 Y4.out
       have hf4 : w4.frozen? ⟨sz + 1, 0, none⟩ = false := box_thaw d4 0
       have hf5 : w4.frozen? ⟨sz + 1, 1, none⟩ = false := box_thaw d4 1
       clear o4 y4))
  all_goals
    go_wp2_with (fail)
    have q1 : ((w4.setCell ⟨sz + 1, 0, none⟩ (.int .i32 r)).setCell ⟨sz + 1, 1, none⟩ (.slice A4 X.length k4)).heap[sz + 1]? = some (.cells #[.int .i32 r, .slice A4 X.length k4] 38 (0, 0)) := by
      have h1 := heap_setCell_self (j := 0) d4 (.int .i32 r)
      have h2 := heap_setCell_self (j := 1) h1 (.slice A4 X.length k4)
      simpa using h2
    refine bodyPost_ret (results_cell_row (P := Tryz.prog) rfl _ _ (sz + 1) 38 #[.int .i32 r, .slice A4 X.length k4] (0, 0) _ rfl q1 Tryz.unCl rfl Tryz.szCl) rfl ?_
    have ha := (O4.out.base_le (B := w.heap.size) (by have := Y3.out.size; have := Y.out.size; omega))
    have hne : ∀ k, wb (.slice A4 X.length k4) = some k → k ≠ sz + 1 := fun k hk => by
      have := (O4.out.wb_lt k hk).1
      have := lt_of_some c4
      omega
    refine ⟨A4, k4, rfl, (ha.setCell (p := ⟨sz + 1, 0, none⟩) (fun e => hne _ e rfl) _).setCell (p := ⟨sz + 1, 1, none⟩) (fun e => hne _ e rfl) _, ?_⟩
    exact ((ext_trans Y.out Y4.out).setCell (p := ⟨sz + 1, 0, none⟩) (by have := HSZ.out; simp only; omega) _).setCell (p := ⟨sz + 1, 1, none⟩) (by have := HSZ.out; simp only; omega) _
end Go.Proofs.YtfnkjcodcoehcaaGreatDoor
