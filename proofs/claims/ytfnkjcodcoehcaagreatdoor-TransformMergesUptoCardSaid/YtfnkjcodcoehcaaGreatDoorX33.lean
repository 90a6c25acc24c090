/- Merged texts. -/
import Derived.Test.YtfnkjcodcoehcaaGreatDoorX32
namespace Go.Proofs.YtfnkjcodcoehcaaGreatDoor
set_option maxRecDepth 100000
set_option maxHeartbeats 12800000
open Go.RowKit
open Go.Lib (hid Utf8Tabs)
set_option linter.unusedVariables false
set_option linter.unusedSimpArgs false
theorem Z9t (A B : Option Addr) (n c k d : Nat) (s : List At) (p : List Ch) (w : World) (hn : n = s.length) (hk : k = p.length) (h1 : RdAt w w.heap.size A s) (h2 : RdCh w w.heap.size B p) (hb : n ≤ 1000000) (hb2 : k ≤ 1000000) :
 Calls Tryz.prog 95 #[.slice A n c, .slice B k d] w (Z83 (Z36 p s) w) := by
 have N := hid hn
 have K := hid hk
 have H1 := hid h1
 have H2 := hid h2
 obtain ⟨R, hR⟩ : ∃ X, Z36 p s = X := ⟨_, rfl⟩
 have HR := hid hR
 rw [hR]
 clear hn hk h1 h2 hR
 go_enter Tryz.func95, Tryz.ntmps95
 go_wp2_with ((at_builtin; refine Z2S (l := []) (m := s) rfl (.tmp 7) (.tmp 8) rfl rfl (by exact Ow.empty _ w.heap.size _) _ _ _ _ rfl N.out (by exact H1.out.ext (Z0b w _)) (by have := N.out; simp only [List.length_nil]; omega) (by simp) ?_; intro v1 w1 ho1 g1 hv1))
 rw [List.nil_append] at ho1
 have O1 := hid ho1
 have Y1 : Hid (Below w.heap.size w w1) := hid ((Z0b w _).grown g1 (by simp) (fun k hk => by cases hk))
 clear ho1 g1 hv1
 go_wp2_with (fail)
 go_loopg [5, 6] k (fun g ov iv wr => ∃ (m : Nat) (r : List At), m ≤ k ∧ g = k - m ∧ iv = .int .i64 (m : Int) ∧ OwAt wr w.heap.size ov r ∧ r.length ≤ n + m ∧ Below w.heap.size w wr ∧ Hid (Z36 (p.drop m) r = R))
 case atStart => exact ⟨0, s, Nat.zero_le _, rfl, rfl, O1.out, by have := N.out; omega, Y1.out, hid (by rw [List.drop_zero]; exact HR.out)⟩
 case round =>
  obtain ⟨m, r, hm, hg, rfl, hown, hrl, y, HI⟩ := hrel
  have HG := hid hg
  clear hg HR O1 Y1
  by_cases hlt : m < k
  ·have hlt' : (m : Int) < (k : Int) := by omega
   obtain ⟨ad, x, rfl, hd1, hx1, hc0⟩ := (H2.out.ext y).elIn (i := m) (by have := K.out; omega)
   have hst := HI.out
   rw [hd1] at hst
   obtain ⟨x1, x6, x2, x3, x4, x5⟩ := x
   have CX := hid hc0
   have HST : Hid (Z36 (p.drop (m + 1)) (Z3J r ⟨x1, x6, ⟨x2, x3, x4, x5⟩⟩) = R) := hid hst
   have HL : Hid ((Z3J r ⟨x1, x6, ⟨x2, x3, x4, x5⟩⟩).length ≤ n + (m + 1)) := hid (by have := Y1x r ⟨x1, x6, ⟨x2, x3, x4, x5⟩⟩; omega)
   have hw2 : IntKind.i64.wrap ((m:Int) + 1) = (m : Int) + 1 := IntWalk.i64_in _ (by omega)
   obtain ⟨A1, c1, rfl, _, _⟩ := hown.form
   have RR := hid (hown.rd At.enc_len)
   have YS := hid y.size
   have LB : Hid (r.length ≤ 2000000) := hid (by omega)
   clear hst hc0 hd1 hx1 HI hown
   obtain ⟨r0, r1, r2, r3, r4, r5⟩ := Z0I CX.out.2
   cases x6 with
   | true =>
     have HE : Hid (Z3J r ⟨x1, true, ⟨x2, x3, x4, x5⟩⟩ = r.filter (fun a => !(a.key == x1))) := hid rfl
     go_wp2_with (go_at_call 64; refine Hid.out ?_)
     refine hid ?_
     refine (Z4M x1 A1 r.length c1 r _ rfl RR.out (by have := LB.out; omega)).mono ?_
     rw [← HE.out]
     rintro e w3 ⟨A3, c3, rfl, o3, y3⟩
     have O3 := hid (o3.base_le (B := w.heap.size) YS.out)
     have Y3 := hid (Z0a y y3)
     clear o3 y3
     go_wp2_with (fail)
     go_roundg (k - (m + 1))
     case measure => have := HG.out; omega
     case rel => exact ⟨m + 1, _, by omega, rfl, by go_num, O3.out, HL.out, Y3.out, HST⟩
   | false =>
     have HE : Hid (Z3J r ⟨x1, false, ⟨x2, x3, x4, x5⟩⟩ = Z3I r ⟨x1, ⟨x2, x3, x4, x5⟩⟩) := hid rfl
     go_wp2_with (fail)
     go_region_held3 (fun w' => w'.cell? (ad.add (m * 6)) = some (.int .i64 x1) ∧ w'.cell? { block := (ad.add (m * 6)).block, off := (ad.add (m * 6)).off + 2 } = some (.int .u8 x2) ∧ w'.cell? { block := (ad.add (m * 6)).block, off := (ad.add (m * 6)).off + 3 } = some (.int .i64 x3) ∧ w'.cell? { block := (ad.add (m * 6)).block, off := (ad.add (m * 6)).off + 4 } = some (.int .u64 x4) ∧ w'.cell? { block := (ad.add (m * 6)).block, off := (ad.add (m * 6)).off + 5 } = some (.string x5)) (go_keep) (first
      | (go_at_call 170
         with_reducible refine (Y1v A1 r.length c1 r x1 x2 x3 x4 x5 wr.drew rfl (RR.out.ext (Z0j (Below.refl _ _))) (by have := LB.out; omega)).mono ?_
         rw [← HE.out]
         rintro e w3 ⟨A3, c3, rfl, o3, y3⟩
         have O3 := hid (o3.base_le (B := w.heap.size) YS.out)
         have Y3 := hid (Z0a y (Z0a (Z0j (Below.refl _ _)) y3))
         obtain ⟨q0, q1, q2, q3, q4, q5⟩ := Z0I (CX.out.ext (Z0a (Z0j (Below.refl _ _)) y3)).2
         clear o3 y3))
     go_wp2_with (fail)
     go_roundg (k - (m + 1))
     case measure => have := HG.out; omega
     case rel => exact ⟨m + 1, _, by omega, rfl, by go_num, O3.out, HL.out, Y3.out, HST⟩
  ·have hlt' : ¬ (m : Int) < (k : Int) := by omega
   have hR : r = R := by
    have h := HI.out
    rw [List.drop_eq_nil_of_le (by have := K.out; omega)] at h
    exact h
   subst hR
   obtain ⟨A', c', rfl, _, _⟩ := hown.form
   have HOW := hid hown
   clear hown
   go_wp2_with (fail)
   go_ret
   exact ⟨A', c', rfl, HOW.out, y⟩
theorem Z5h (A0 : Option Addr) (n0 c0 : Nat) (l : List Ky) (r : Int) (As Ap : Option Addr) (n cs np cp : Nat) (set : List At) (p : List Ch) (w : World) (hn0 : n0 = l.length) (hK : RdKy w w.heap.size A0 l) (b0 : n0 ≤ 1048576) (hn : n = set.length) (hp : np = p.length) (h1 : RdAt w w.heap.size As set) (h2 : RdCh w w.heap.size Ap p)
 (b1 : n ≤ 1000000) (b2 : np ≤ 1000000) (rs : Z1H set = true) (rp : Z1W p = true) :
 Calls Tryz.prog 38 #[.slice A0 n0 c0, .agg #[.int .i32 r, .slice As n cs], .slice Ap np cp] w
  fun e w' => ∃ A c, e = .returned (.agg #[.int .i32 r, .slice A (actC l ⟨r, set⟩ p).s.length c]) ∧ OwAt w' w.heap.size (.slice A (actC l ⟨r, set⟩ p).s.length c) (actC l ⟨r, set⟩ p).s ∧ Below w.heap.size w w' := by
 have ya := Z0b w (.cells #[.int .i32 r, .slice As n cs] 38)
 have yb := Z0b (w.alloc (.cells #[.int .i32 r, .slice As n cs] 38)) (.cells #[.int .i32 0, .slice none 0 0] 38)
 have g1' := heap_alloc_new w (.cells #[.int .i32 r, .slice As n cs] 38)
 have g2' := heap_alloc_new (w.alloc (.cells #[.int .i32 r, .slice As n cs] 38)) (.cells #[.int .i32 0, .slice none 0 0] 38)
 have G1 := (yb.block w.heap.size (by simp)).trans g1'
 rw [World.size_alloc] at g2'
 have y := Z0a ya yb
 have N := hid hn
 have P := hid hp
 have HN0 := hid hn0
 have HK := hid hK
 clear hn0 hK
 have HR : Hid (∃ X, (actC l ⟨r, set⟩ p).s = X ∧ Z36 (Z1t l (r == 10) p) set = X) := hid ⟨_, rfl, Y3l (Z1d.2 ((Z1d.1 rp).filter Ch.key _)) rs⟩
 obtain ⟨X, hX1, hX2⟩ := HR.out
 rw [hX1]
 have HX := hid hX2
 clear ya yb g1' hX1 hX2 HR hn hp
 have hbp : (Z1t l (r == 10) p).length ≤ np := by rw [P.out]; exact List.length_filter_le _ _
 have BND : Hid (np ≤ 1000000) := hid b2
 go_enter Tryz.func38, Tryz.ntmps38
 go_wp2_with (fail)
 obtain ⟨sz, hsz⟩ : ∃ z, w.heap.size = z := ⟨_, rfl⟩
 have HSZ := hid hsz
 generalize ((w.alloc (.cells #[.int .i32 r, .slice As n cs] 38)).alloc (.cells #[.int .i32 0, .slice none 0 0] 38)) = v at *
 have Y := hid y
 have HG1 := hid G1
 have HG2 := hid g2'
 obtain ⟨a0, a1⟩ := Z34 G1
 obtain ⟨e0, e1⟩ := Z34 g2'
 have hlt1 := Z0c G1
 have hlt2 := Z0c g2'
 rw [hsz] at a0 a1 e0 e1 hlt1 hlt2 ⊢
 have SF : Hid (∀ u, Below v.heap.size v u → (u.cell? ⟨sz, 0, none⟩ = some (.int .i32 r) ∧ u.cell? ⟨sz, 1, none⟩ = some (.slice As n cs)) ∧ (u.cell? ⟨sz + 1, 0, none⟩ = some (.int .i32 0) ∧ u.cell? ⟨sz + 1, 1, none⟩ = some (.slice none 0 0)) ∧ u.heap[sz + 1]? = some (.cells #[.int .i32 0, .slice none 0 0] 38 (0, 0))) := hid (fun u hu => by
  have q1 := (hu.block _ (by rw [← HSZ.out] at hlt1; exact hlt1)).trans HG1.out
  have q2 := (hu.block _ (by rw [← HSZ.out] at hlt2; exact hlt2)).trans HG2.out
  rw [HSZ.out] at q1 q2
  exact ⟨Z34 q1, Z34 q2, q2⟩)
 have hf0 : v.frozen? ⟨sz + 1, 0, none⟩ = false := Z0g (SF.out v (Below.refl _ _)).2.2 0
 clear G1 g2' hlt1 hlt2 y hsz
 go_region_law (first
  | (refine Z0M rfl 96 [.tmp 11, .tmp 12, .tmp 15] #[22, 48, 4] rfl Tryz.f96 (by kernel_rfl) (by kernel_rfl) (by kernel_rfl) [.slice A0 n0 c0, .slice Ap np cp, .bool (r == 10)] (by rfl) (Y1f A0 Ap n0 c0 np cp l (r == 10) p v.drew HN0.out (HK.out.ext (Z0j Y.out)) (by omega) P.out (h2.ext (Z0j Y.out)) (by omega)) ?_
     rintro e w3 ⟨A3, k3, rfl, o3, y3⟩
     refine ⟨_, rfl, ?_⟩
     have O3 := hid o3
     have Y3 : Hid (Below v.heap.size v w3) := hid ((Z0j (Below.refl _ _)).trans y3)
     obtain ⟨⟨c0, c1⟩, ⟨c2, c3⟩, c4⟩ := SF.out w3 Y3.out
     clear o3 y3)
  | (refine Z0M rfl 95 [.tmp 10, .tmp 16] #[36, 48] rfl Tryz.f95 (by kernel_rfl) (by kernel_rfl) (by kernel_rfl) [.slice As n cs, .slice A3 (Z1t l (r == 10) p).length k3] (by rfl) (Z9t As A3 n cs (Z1t l (r == 10) p).length k3 set (Z1t l (r == 10) p) w3 N.out rfl (h1.ext (Z0a Y.out Y3.out)) (O3.out.rd Ch.enc_len) b1 (by have := BND.out; omega)) ?_
     rw [HX.out]
     rintro e w4 ⟨A4, k4, rfl, o4, y4⟩
     refine ⟨_, rfl, ?_⟩
     have O4 := hid o4
     have Y4 : Hid (Below v.heap.size v w4) := hid (Z0a Y3.out y4)
     obtain ⟨⟨d0, d1⟩, ⟨d2, d3⟩, d4⟩ := SF.out w4 Y4.out
     have hf4 : w4.frozen? ⟨sz + 1, 0, none⟩ = false := Z0g d4 0
     have hf5 : w4.frozen? ⟨sz + 1, 1, none⟩ = false := Z0g d4 1
     clear o4 y4))
 all_goals
  go_wp2_with (fail)
  have q1 : ((w4.setCell ⟨sz + 1, 0, none⟩ (.int .i32 r)).setCell ⟨sz + 1, 1, none⟩ (.slice A4 X.length k4)).heap[sz + 1]? = some (.cells #[.int .i32 r, .slice A4 X.length k4] 38 (0, 0)) := by
   have h1 := Z0i (j := 0) d4 (.int .i32 r)
   have h2 := Z0i (j := 1) h1 (.slice A4 X.length k4)
   simpa using h2
  refine bodyPost_ret (results_cell_row (P := Tryz.prog) rfl _ _ (sz + 1) 38 #[.int .i32 r, .slice A4 X.length k4] (0, 0) _ rfl q1 Tryz.unCl rfl Tryz.szCl) rfl ?_
  have ha := (O4.out.base_le (B := w.heap.size) (by have := Y3.out.size; have := Y.out.size; omega))
  have hne : ∀ k, wb (.slice A4 X.length k4) = some k → k ≠ sz + 1 := fun k hk => by
   have := (O4.out.wb_lt k hk).1
   have := Z0c c4
   omega
  refine ⟨A4, k4, rfl, (ha.setCell (p := ⟨sz + 1, 0, none⟩) (fun e => hne _ e rfl) _).setCell (p := ⟨sz + 1, 1, none⟩) (fun e => hne _ e rfl) _, ?_⟩
  exact ((Z0a Y.out Y4.out).setCell (p := ⟨sz + 1, 0, none⟩) (by have := HSZ.out; simp only; omega) _).setCell (p := ⟨sz + 1, 1, none⟩) (by have := HSZ.out; simp only; omega) _
theorem Z7S (A As : Option Addr) (n c ns cs : Nat) (l : List Int) (s : List At) (w : World) (hn : n = l.length) (hs : ns = s.length) (h : Z1V w w.heap.size A l) (h2 : RdAt w w.heap.size As s) (hb : n ≤ 100000000) (hb2 : ns ≤ 100000000) :
 Calls Tryz.prog 124 #[.slice A n c, .slice As ns cs] w (NewCls (l.map (fun r => ⟨r, s⟩)) w) := by
 have N := hid hn
 have NS := hid hs
 have HX := hid h
 have HS := hid h2
 clear hn hs h h2
 go_enter Tryz.func124, Tryz.ntmps124
 go_wp2_with (fail)
 go_loopg [5, 6] n (fun g ov iv wr => ∃ (m : Nat) (D : List ClS), m ≤ n ∧ g = n - m ∧ iv = .int .i64 (m : Int) ∧ Z0e D = (l.take m).map (fun r => ⟨r, s⟩) ∧ D.length = m ∧ OwCs wr w.heap.size ov D ∧ Hid (∀ x ∈ D, PartC wr w.heap.size ov x) ∧ Below w.heap.size w wr)
 case atStart => exact ⟨0, [], by omega, rfl, rfl, rfl, rfl, Ow.nil _ _, hid (fun x hx => by cases hx), Below.refl _ _⟩
 case round =>
  obtain ⟨m, D, hm, hg, rfl, hDo, hD, hown, HP, y⟩ := hrel
  have HG := hid hg
  clear hg
  by_cases hlt : m < n
  ·have hl1 : m < l.length := by have := N.out; omega
   have hlt' : (m : Int) < (n : Int) := by omega
   obtain ⟨ad, r, had0, hd0, hd1, hx1, hc0⟩ := (HX.out.ext y).el hl1
   subst had0
   have HM := hid hx1
   have HAD : Hid (ad.block < w.heap.size) := hid (by
    obtain ⟨ad', e', hb', _⟩ := HX.out (by omega)
    injection e' with e'; subst e'; exact hb')
   have HC := hid hc0
   have G2 := hid (HS.out.ext y)
   have hw2 : IntKind.i64.wrap ((m:Int) + 1) = (m : Int) + 1 := IntWalk.i64_in _ (by omega)
   clear hc0 hd1 hx1 hd0
   have HOW := hid hown
   go_wp2_with (fail)
   have opb : ∀ {W : World}, Below wr.heap.size wr W → W.cell? (ad.add m) = some (.int .i32 r) := fun {W} yw => by
    have := (HC.out.keep (w' := W) fun q hq => yw.cell (by rw [hq, Z0q]; have := HAD.out; have := y.size; omega)) 0 _ rfl
    rwa [Z0v, Nat.mul_one] at this
   have YW : Hid (Below wr.heap.size wr wr.drew) := hid (Z0j (Below.refl _ _))
   have YB : Hid (Below wr.heap.size wr wr) := hid (Below.refl _ _)
   have Cw := opb YB.out
   go_region_held_law (fun w' => w'.cell? (ad.add m) = some (.int .i32 r)) (first | exact C9 | exact opb (by repeat (first | exact YW.out | exact YB.out | refine Z0a ?_ (Z0b _ _) | refine Z0j ?_))) (first
    | (refine Z6k (m := s) rfl (.tmp 18) (.tmp 19) (by rfl) ⟨_, rfl⟩ wr.heap.size _ As cs ns (by rfl) NS.out (G2.out.ext (by repeat (first | exact YW.out | exact YB.out | refine Z0a ?_ (Z0b _ _) | refine Z0j ?_))) (by have := NS.out; omega) (by exact ((by repeat (first | exact YW.out | exact YB.out | refine Z0a ?_ (Z0b _ _) | refine Z0j ?_)) : Below wr.heap.size wr _).size) ?_
       intro vAt w6 hoAt hgrAt
       obtain ⟨A6, k6, hv6, _, _⟩ := hoAt.form
       subst hv6
       have OAt := hid hoAt
       have YW : Hid (Below wr.heap.size wr w6) := hid (Y2H (by repeat (first | exact YW.out | exact YB.out | refine Z0a ?_ (Z0b _ _) | refine Z0j ?_)) hgrAt)
       have CAt := opb YW.out
       clear hoAt hgrAt)
    | (refine Z49 (l := D) (m := [(⟨⟨r, s⟩, A6, k6⟩ : ClS)]) rfl (.tmp 13) (.tmp 22) (by rfl) (by rfl) (HOW.out.below (Z0a YW.out (Z0b _ _)) (Nat.le_refl _)) _ _ 1 1 (by rfl) rfl (Z1E (enc := ClS.enc) (size := 2) w6 _ (⟨⟨r, s⟩, A6, k6⟩ : ClS) rfl) (by simp only [List.length_singleton]; omega) (Nat.le_trans y.size (Z0a YW.out (Z0b _ _)).size) ?_
       intro v9 w9 ho9 hgr9 hw9
       have O9 := hid ho9
       have HW9 := hid hw9
       have HG9 := hid hgr9
       have Y9 : Hid (Below w.heap.size w w9) := hid (Z0K (y.trans ((Z0a YW.out (Z0b _ _)).mono y.size)) (Nat.le_trans y.size (Z0a YW.out (Z0b _ _)).size) (HOW.out.below (Z0a YW.out (Z0b _ _)) (Nat.le_refl _)) (Nat.le_refl _) hgr9)
       have C9 : w9.cell? (ad.add m) = some (.int .i32 r) := by
        have := (HC.out.keep (w' := w9) fun q hq => (Y9.out.cell (by rw [hq, Z0q]; exact HAD.out)).trans (y.cell (by rw [hq, Z0q]; exact HAD.out)).symm) 0 _ rfl
        rwa [Z0v, Nat.mul_one] at this
       clear ho9 hgr9 hw9))
   all_goals
    have r := Z6l (x' := ⟨⟨r, s⟩, A6, k6⟩) y HOW.out HP.out OAt.out (Below.refl _ _) YW.out HG9.out HW9.out
    have R1 := hid r.1
    have R2 := hid r.2
    clear r
    go_wp2_with (fail)
    go_roundg (n - (m + 1))
   all_goals first
    | (have := HG.out; omega)
    | (refine ⟨m + 1, D ++ [⟨⟨r, s⟩, A6, k6⟩], by omega, rfl, by go_num, ?_, by simp [hD], O9.out, R1, R2.out⟩
       rw [List.take_add_one, HM.out]
       unfold Z0e at hDo ⊢
       rw [List.map_append, List.map_append, hDo]; rfl)
  ·have hml : m = n := by omega
   subst hml
   have hlt' : ¬ (m : Int) < (m : Int) := by omega
   have HO := hid hown
   have HD := hid hD
   have HDO := hid hDo
   clear hown hD hDo
   obtain ⟨A1, k1, hv1, _, _⟩ := HO.out.form
   subst hv1
   go_wp2_with (fail)
   go_ret
   exact ⟨A1, k1, D, rfl, by rw [HDO.out, N.out, List.take_length], HO.out, HP.out, y⟩
theorem Z8K (l : List Ky) (us : List Un) : ∀ (g : Nat) (d : List Cl), app l (List.replicate g .del ++ us) d = app l us (d.drop g)
 | 0, d => rfl
 | g + 1, d => by rw [List.replicate_succ]; show app l (List.replicate g .del ++ us) (d.drop 1) = _; rw [Z8K l us g, List.drop_drop, Nat.add_comm 1]
theorem Y0D (l : List Ky) (p : List Ch) (vs : List Un) : ∀ (n : Nat) (d : List Cl), n ≤ d.length → app l (List.replicate n (.ret p) ++ vs) d = (d.take n).map (fun c => actC l c p) ++ app l vs (d.drop n)
 | 0, d, _ => rfl
 | n + 1, [], h => by simp at h
 | n + 1, c :: d, h => by
   rw [List.replicate_succ]
   show [actC l c p] ++ app l (List.replicate n (.ret p) ++ vs) d = _
   rw [Y0D l p vs n d (by simpa using h)]
   simp
theorem Y0E (l : List Ky) (s : List At) (vs : List Un) (d : List Cl) : ∀ r : List Int, app l (r.map (fun r => Un.ins r s) ++ vs) d = r.map (fun r => (⟨r, s⟩ : Cl)) ++ app l vs d
 | [] => rfl
 | r :: t => by
   show (⟨r, s⟩ : Cl) :: app l (t.map (fun r => Un.ins r s) ++ vs) d = _
   rw [Y0E l s vs d t]; rfl
def DoneU (l : List Ky) (us : List Un) (d : List Cl) (M : List Cl) (a : Nat) : Prop := a = Z0k us ∧ M.length = Z0p us ∧ ∀ vs, app l (us ++ vs) d = M ++ app l vs (d.drop a)
theorem DoneU.nil (l : List Ky) (d : List Cl) : DoneU l [] d [] 0 := ⟨rfl, rfl, fun vs => rfl⟩
theorem DoneU.ret {l : List Ky} {us : List Un} {d M : List Cl} {a n : Nat} {p : List Ch} (h : DoneU l us d M a) (hn : a + n ≤ d.length) : DoneU l (us ++ List.replicate n (.ret p)) d (M ++ ((d.drop a).take n).map (fun c => actC l c p)) (a + n) := by
 obtain ⟨h1, h2, h3⟩ := h
 refine ⟨?_, ?_, fun vs => ?_⟩
 ·rw [Z0y, ← h1, Z2Z]
 ·rw [Z0E, ← h2, List.length_append, List.length_map, List.length_take, List.length_drop, Z45]; omega
 ·rw [List.append_assoc, h3, Y0D l p vs n (d.drop a) (by rw [List.length_drop]; omega), List.drop_drop, List.append_assoc]
theorem DoneU.ins {l : List Ky} {us : List Un} {d M : List Cl} {a : Nat} (h : DoneU l us d M a) (r : List Int) (s : List At) : DoneU l (us ++ r.map (fun r => Un.ins r s)) d (M ++ r.map (fun r => (⟨r, s⟩ : Cl))) a := by
 obtain ⟨h1, h2, h3⟩ := h
 refine ⟨?_, ?_, fun vs => ?_⟩
 ·rw [Z0y, ← h1]
  have : Z0k (r.map (fun r => Un.ins r s)) = 0 := by induction r with | nil => rfl | cons r t ih => exact ih
  omega
 ·rw [Z0E, ← h2, List.length_append, List.length_map]
  have : Z0p (r.map (fun r => Un.ins r s)) = r.length := by induction r with | nil => rfl | cons r t ih => rw [List.map_cons, Z3a, ih]; rfl
  omega
 ·rw [List.append_assoc, h3, Y0E, List.append_assoc]
theorem DoneU.del {l : List Ky} {us : List Un} {d M : List Cl} {a n : Nat} (h : DoneU l us d M a) : DoneU l (us ++ List.replicate n .del) d M (a + n) := by
 obtain ⟨h1, h2, h3⟩ := h
 refine ⟨?_, ?_, fun vs => ?_⟩
 ·rw [Z0y, ← h1, Z2p]
 ·rw [Z0E, ← h2, Z3M]; rfl
 ·rw [List.append_assoc, h3, Z8K, List.drop_drop]
theorem Y1y {x : List OpS} {m : Nat} {o : OpS} (h : x[m]? = some o) : Z0d (osOf (x.take (m + 1))) = Z0d (osOf (x.take m)) ++ Z0h o.o := by
 unfold osOf
 rw [List.take_add_one, h, List.map_append, Z0G]
 congr 1
 exact Z1j o.o
theorem Y3m (x : List OpS) (m : Nat) : ∃ vs, Z0d (osOf x) = Z0d (osOf (x.take m)) ++ vs := by
 refine ⟨Z0d (osOf (x.drop m)), ?_⟩
 unfold osOf
 rw [← Z0G, ← List.map_append, List.take_append_drop]
theorem Y6C (x : List OpS) (m : Nat) : Z0k (Z0d (osOf (x.take m))) ≤ Z0k (Z0d (osOf x)) ∧ Z0p (Z0d (osOf (x.take m))) ≤ Z0p (Z0d (osOf x)) := by
 obtain ⟨vs, h⟩ := Y3m x m
 rw [h, Z0y, Z0E]
 omega
theorem Z28 {w wr w3 w9 : World} {ov v9 : Value} {D M : List ClS} (y : Below w.heap.size w wr) (how : OwCs wr w.heap.size ov D) (hp : ∀ x ∈ D, PartC wr w.heap.size ov x) (y3 : Below wr.heap.size wr w3)
 (hm : ∀ x ∈ M, OwAt w3 wr.heap.size (.slice x.As x.c.s.length x.cs) x.c.s) (g : w3.grownBy w9 (wb ov)) (hv : v9 = ov ∧ w9 = w3 ∨ wb v9 = wb ov ∨ wb v9 = some w3.heap.size) :
 (∀ x ∈ D ++ M, PartC w9 w.heap.size v9 x) ∧ Below w.heap.size w w9 := by
 have s0 := y.size
 refine ⟨fun x hx => ?_, ?_⟩
 ·rcases List.mem_append.1 hx with hx | hx
  ·exact ((hp x hx).below y3).app g hv
  ·have o6 := hm x hx
   have p : PartC w3 w.heap.size ov x := ⟨o6.base_le (by omega), fun k hk he => by
    have h1 := (o6.wb_lt k hk).1
    have h2 := (how.wb_lt k he).2
    omega⟩
   exact p.app g hv
 ·have yy := Z0a y y3
  exact yy.grown g yy.size (fun k hk => (how.wb_lt k hk).1)
theorem Ow.ne_type {α : Type} {enc : α → List Value} {size : Nat} {e e' : TypeId} {w : World} {base g : Nat} {cur : Array Value} {v : Value} {l : List α} (h : Ow enc size e w base v l) (hg : w.heap[g]? = some (.cells cur e' (0, 0))) (he : e' ≠ e) : wb v ≠ some g := fun hw => by
 rcases h with ⟨rfl, A, rfl⟩ | ⟨_, ⟨rfl, _⟩ | ⟨g', cap, cur', rfl, _, hg', _⟩⟩
 ·cases A <;> cases hw
 ·cases hw
 ·cases cap with
  | zero => cases hw
  | succ c =>
    injection hw with hw
    subst hw
    rw [hg] at hg'
    injection hg' with hg'
    injection hg' with _ hg' _
    exact he hg'
theorem Y4N {A0 A1 A2 : Option Addr} {n0 n1 n2 c0 c1 c2 : Nat} {l : List Ky} {d : List ClS} {x : List OpS} {w : World} (e0 : n0 = l.length) (r0 : RdKy w w.heap.size A0 l) (b0 : n0 ≤ 1048576) (e1 : n1 = d.length) (r1 : RdCl w w.heap.size A1 d) (b1 : n1 ≤ 10000) (k1 : n1 ≤ c1)
 (e2 : n2 = x.length) (r2 : RdOp w w.heap.size A2 x) (b2 : n2 ≤ 10000) (hs : ∀ z ∈ d, z.c.s.length ≤ 1000000 ∧ Z1H z.c.s = true) (hi : ∀ o ∈ x, isOp o.o ∧ o.o.r.length ≤ 100000 ∧ o.o.s.length ≤ 1000000 ∧ o.o.p.length ≤ 1000000 ∧ Z1W o.o.p = true)
 (ht : Z0k (Z0d (osOf x)) ≤ n1) (hm : Z0p (Z0d (osOf x)) ≤ 20000) :
 Calls Tryz.prog 92 #[.slice A0 n0 c0, .slice A1 n1 c1, .slice A2 n2 c2] w (NewCls (app l (Z0d (osOf x)) (Z0e d)) w) := by
 have N0 := hid e0
 have R0 := hid r0
 have N1 := hid e1
 have R1 := hid r1
 have N2 := hid e2
 have R2 := hid r2
 have HS := hid hs
 have HI := hid hi
 have LD : Hid ((Z0e d).length = n1) := hid (by rw [Z0s, e1])
 have TM : Hid (∀ m, Z0k (Z0d (osOf (x.take m))) ≤ n1 ∧ Z0p (Z0d (osOf (x.take m))) ≤ 20000) := hid (fun m => by have := Y6C x m; omega)
 have RAS : Hid (∀ v, Below w.heap.size w v → ∀ z ∈ d, RdAt v v.heap.size z.As z.c.s) := hid (fun v hv z hz => (r1.2 z hz).ext hv)
 clear e0 r0 e1 e2 hs hi ht hm
 go_enter Tryz.func92, Tryz.ntmps92
 go_wp2_with (fail)
 go_loopg [7, 8, 9] n2 (fun g ov av iv wr => ∃ (m a : Nat) (D : List ClS), m ≤ n2 ∧ a ≤ n1 ∧ D.length ≤ 20000 ∧ g = n2 - m ∧ av = .int .i64 (a : Int) ∧ iv = .int .i64 (m : Int) ∧ OwCs wr w.heap.size ov D ∧ Hid (∀ z ∈ D, PartC wr w.heap.size ov z) ∧ Hid (DoneU l (Z0d (osOf (x.take m))) (Z0e d) (Z0e D) a) ∧ Below w.heap.size w wr)
 case atStart => exact ⟨0, 0, [], Nat.zero_le _, Nat.zero_le _, Nat.zero_le _, rfl, rfl, rfl, Ow.nil _ _, hid (fun z hz => by cases hz), hid (DoneU.nil _ _), Below.refl _ _⟩
 case round =>
  obtain ⟨m, a, D, hm, ha, hdl, hg, rfl, rfl, hown, HP, HD, y⟩ := hrel
  have HG := hid hg
  have HOW := hid hown
  clear hg hown
  by_cases hlt : m < n2
  ·have hlt' : (m : Int) < (n2 : Int) := by omega
   obtain ⟨ad, o, rfl, hab, _, hx, hc⟩ := (R2.out.ext y).1.el (i := m) (by have := N2.out; omega)
   have om := List.mem_of_getElem? hx
   have PO := hid ((R2.out.ext y).2 o om)
   have PW := hid (R2.out.2 o om)
   have OK := hid (HI.out o om)
   have UT := hid (Y1y hx)
   have T1 := TM.out (m + 1)
   have hw2 : IntKind.i64.wrap ((m : Int) + 1) = (m : Int) + 1 := IntWalk.i64_in _ (by omega)
   obtain ⟨⟨k, nn, r, s, p⟩, Ar, cr, As, cs, Ap, cp⟩ := o
   simp only at PO OK PW
   obtain ⟨z0, z1, z2, z3, z4⟩ := Z0o hc
   obtain ⟨wo, hwo⟩ : ∃ X, X = wr := ⟨_, rfl⟩
   subst hwo
   have HDL : Hid (D.length = Z0p (Z0d (osOf (x.take m)))) := hid (by rw [← Z0s]; exact HD.out.2.1)
   have HAT : Hid (a = Z0k (Z0d (osOf (x.take m)))) := hid HD.out.1
   clear hx hc om hab
   rcases Z0x OK.out.1 with hk | hk | hk
   · -- an insert
    simp only at hk
    subst hk
    have UO : Hid (Z0h ⟨2, nn, r, s, p⟩ = r.map (fun r => Un.ins r s)) := hid (by unfold Z0h; rw [if_pos rfl])
    obtain ⟨q0, q1, q2, q3, q4⟩ := Z3E (heap_alloc_new wo (.cells #[.int .u8 2, .int .i64 nn, .slice Ar r.length cr, .slice As s.length cs, .slice Ap p.length cp] 50))
    have YB := hid (Z0b wo (.cells #[.int .u8 2, .int .i64 nn, .slice Ar r.length cr, .slice As s.length cs, .slice Ap p.length cp] 50))
    obtain ⟨L, hL⟩ : ∃ X, r.map (fun r => (⟨r, s⟩ : Cl)) = X := ⟨_, rfl⟩
    have HLL := hid hL
    clear hL
    go_wp2_with (go_at_call 124; refine Hid.out ?_)
    refine hid ?_
    refine (Z7S Ar As r.length cr s.length cs r s _ rfl rfl (PO.out.1.ext YB.out) (PO.out.2.1.ext YB.out) (by have := OK.out.2.1; clear hw2; (try simp only at this); omega) (by have := OK.out.2.2.1; clear hw2; (try simp only at this); omega)).mono ?_
    rw [HLL.out]
    rintro e w3 ⟨A3, k3, L3, rfl, h3, o3, p3, y3⟩
    have Y3 := hid (Z0a YB.out y3)
    have O3 := hid (o3.rd ClS.enc_len)
    have P3 : Hid (∀ z ∈ L3, OwAt w3 wo.heap.size (.slice z.As z.c.s.length z.cs) z.c.s) := hid (fun z hz => (p3 z hz).1.base_le (by simp))
    have E3 := hid h3
    have L3L : Hid (L3.length ≤ 100000) := hid (by have h := congrArg List.length h3; rw [Z0s, ← HLL.out, List.length_map] at h; have := OK.out.2.1; clear hw2; (try simp only at this); omega)
    clear h3 o3 p3 y3 q0 q1 q2 q3 q4 z0 z1 z2 z3 z4
    go_wp2_with ((at_builtin; refine Z95 (l := D) (m := L3) rfl (.tmp 55) (.tmp 60) rfl rfl (HOW.out.below Y3.out (Nat.le_refl _)) _ A3 k3 L3.length rfl rfl O3.out (by have := L3L.out; clear hw2; omega) (Nat.le_trans y.size Y3.out.size) ?_; intro v9 w9 ho9 hgr9 hw9))
    have RR := Z28 y HOW.out HP.out Y3.out P3.out hgr9 hw9
    have O9 := hid ho9
    have P9 := hid RR.1
    have Y9 := hid RR.2
    have D9 : Hid (DoneU l (Z0d (osOf (x.take (m + 1)))) (Z0e d) (Z0e (D ++ L3)) a) := hid (by
     rw [UT.out, UO.out, show Z0e (D ++ L3) = Z0e D ++ Z0e L3 from by unfold Z0e; rw [List.map_append], E3.out, ← HLL.out]
     exact HD.out.ins r s)
    have N9 : Hid ((D ++ L3).length ≤ 20000) := hid (by rw [← Z0s, D9.out.2.1]; exact T1.2)
    clear ho9 hgr9 hw9 RR
    go_wp2_with (fail)
    go_roundg (n2 - (m + 1))
    case measure => have := HG.out; clear hw2; omega
    case rel => exact ⟨m + 1, a, D ++ L3, by clear hw2; omega, ha, N9.out, rfl, rfl, by go_num, O9.out, P9, D9, Y9.out⟩
   · -- a delete
    simp only at hk
    subst hk
    obtain ⟨N, rfl⟩ : ∃ N : Nat, nn = N := ⟨nn.toNat, by have := (Z14 OK.out.1 rfl).2; simp only at this; omega⟩
    have UO : Hid (Z0h ⟨3, (N : Int), r, s, p⟩ = List.replicate N .del) := hid (by unfold Z0h; rw [if_neg (show ¬ (3 : Int) = 2 by decide), if_neg (show ¬ (3 : Int) = 1 by decide)]; simp)
    have D9 : Hid (DoneU l (Z0d (osOf (x.take (m + 1)))) (Z0e d) (Z0e D) (a + N)) := hid (by rw [UT.out, UO.out]; exact HD.out.del)
    have AN : a + N ≤ n1 := by rw [D9.out.1]; exact T1.1
    have hw3 : IntKind.i64.wrap ((a : Int) + (N : Int)) = ((a + N : Nat) : Int) := by rw [show (a : Int) + (N : Int) = ((a + N : Nat) : Int) by omega]; exact IntWalk.i64_in _ (by clear hw2; omega)
    obtain ⟨q0, q1, q2, q3, q4⟩ := Z3E (heap_alloc_new wo (.cells #[.int .u8 3, .int .i64 (N : Int), .slice Ar r.length cr, .slice As s.length cs, .slice Ap p.length cp] 50))
    have YB := hid (Z0b wo (.cells #[.int .u8 3, .int .i64 (N : Int), .slice Ar r.length cr, .slice As s.length cs, .slice Ap p.length cp] 50))
    have P9 := hid (fun z (hz : z ∈ D) => (HP.out z hz).below YB.out)
    go_wp2_with (fail)
    go_roundg (n2 - (m + 1))
    case measure => have := HG.out; clear hw2 hw3; omega
    case rel => exact ⟨m + 1, a + N, D, by clear hw2 hw3; omega, AN, hdl, rfl, by first | rfl | go_num, by go_num, HOW.out.below YB.out (Nat.le_refl _), P9, D9, Z0a y YB.out⟩
   · -- a retain
    simp only at hk
    subst hk
    obtain ⟨N, rfl⟩ : ∃ N : Nat, nn = N := ⟨nn.toNat, by have := (Z1K OK.out.1 rfl).2; simp only at this; omega⟩
    have UO : Hid (Z0h ⟨1, (N : Int), r, s, p⟩ = List.replicate N (.ret p)) := hid (by unfold Z0h; rw [if_neg (show ¬ (1 : Int) = 2 by decide), if_pos rfl]; simp)
    have AN : Hid (a + N ≤ n1) := hid (by have h := T1.1; rw [UT.out, UO.out, Z0y, Z2Z, ← HAT.out] at h; exact h)
    have hw3 : IntKind.i64.wrap ((a : Int) + (N : Int)) = ((a + N : Nat) : Int) := by rw [show (a : Int) + (N : Int) = ((a + N : Nat) : Int) by omega]; exact IntWalk.i64_in _ (by have := AN.out; clear hw2; omega)
    have hb := heap_alloc_new wo (.cells #[.int .u8 1, .int .i64 (N : Int), .slice Ar r.length cr, .slice As s.length cs, .slice Ap p.length cp] 50)
    obtain ⟨q0, q1, q2, q3, q4⟩ := Z3E hb
    have HBX := hid hb
    have YB := hid (Z0b wo (.cells #[.int .u8 1, .int .i64 (N : Int), .slice Ar r.length cr, .slice As s.length cs, .slice Ap p.length cp] 50))
    clear hb
    go_wp2_with (fail)
    obtain ⟨bx, hbx⟩ : ∃ X, wo.heap.size = X := ⟨_, rfl⟩
    have HWS := hid hbx
    rw [hbx] at HBX ⊢
    generalize hwb : wo.alloc (.cells #[.int .u8 1, .int .i64 (N : Int), .slice Ar r.length cr, .slice As s.length cs, .slice Ap p.length cp] 50) = wb at *
    have YW0 : Hid (Below w.heap.size w wb) := hid (Z0a y YB.out)
    have PB := hid (fun z (hz : z ∈ D) => (HP.out z hz).below YB.out)
    have OB := hid (HOW.out.below YB.out (Nat.le_refl _))
    clear hwb hbx q0 q1 q2 q3 q4 z0 z1 z2 z3 z4 HP HOW
    go_loopg [7, 11] N (fun g ov iv wr => ∃ (j : Nat) (E : List ClS), j ≤ N ∧ E.length ≤ 20000 + j ∧ g = N - j ∧ iv = .int .i64 (j : Int) ∧ OwCs wr w.heap.size ov E ∧ Hid (∀ z ∈ E, PartC wr w.heap.size ov z) ∧ Hid (Z0e E = Z0e D ++ (((Z0e d).drop a).take j).map (fun c => actC l c p)) ∧ Hid (wr.heap[bx]? = some (.cells #[.int .u8 1, .int .i64 (N : Int), .slice Ar r.length cr, .slice As s.length cs, .slice Ap p.length cp] 50 (0, 0))) ∧ Below w.heap.size w wr)
    case atStart => exact ⟨0, D, Nat.zero_le _, hdl, rfl, rfl, OB.out, PB, hid (by simp), HBX, YW0.out⟩
    case round =>
     clear OB PB HBX YW0 YB HWS
     obtain ⟨j, E, hj, hel, hg, rfl, hown, HPE, HE, HBR, yi⟩ := hrel
     have HG2 := hid hg
     have HOW := hid hown
     clear hg hown
     have YWR := hid yi
     obtain ⟨-, b1', -, -, b4'⟩ := Z3E HBR.out
     by_cases hlj : j < N
     ·have hlj' : (j : Int) < (N : Int) := by clear hw2 hw3; omega
      obtain ⟨q, hq⟩ : ∃ X, a + j = X := ⟨_, rfl⟩
      have HQ := hid hq
      have hw4 : IntKind.i64.wrap ((a : Int) + (j : Int)) = (q : Int) := by rw [show (a : Int) + (j : Int) = (q : Int) by clear hw2 hw3; omega]; exact IntWalk.i64_in _ (by have := AN.out; clear hw2 hw3; omega)
      have hw5 : IntKind.i64.wrap ((j : Int) + 1) = (j : Int) + 1 := IntWalk.i64_in _ (by have := AN.out; clear hw2 hw3 hw4; omega)
      have hq1 : q < n1 := by have := AN.out; clear hw2 hw3 hw4 hw5; omega
      have hq2 : (q : Int) < (n1 : Int) := by clear hw2 hw3 hw4 hw5; omega
      obtain ⟨ad1, z, rfl, _, _, hz1, hcz⟩ := (R1.out.ext yi).1.el (i := q) (by rw [← N1.out]; exact hq1)
      have HZ : Hid (((Z0e d).drop a)[j]? = some z.c) := hid (by rw [List.getElem?_drop, hq]; exact Z2b hz1)
      have zm := List.mem_of_getElem? hz1
      have SZ := hid (HS.out z zm)
      have GZ := hid (R1.out.2 z zm)
      have AD1 : Hid (ad1.block < w.heap.size) := hid (by
       obtain ⟨ad', e', hb', _⟩ := R1.out.1 (by rw [← N1.out]; clear hw2 hw3 hw4 hw5; omega)
       injection e' with e'; subst e'; exact hb')
      obtain ⟨⟨r1, s1⟩, As1, cs1⟩ := z
      simp only at SZ GZ HZ
      have HCZ := hid hcz
      obtain ⟨X, hX⟩ : ∃ X, (actC l ⟨r1, s1⟩ p).s = X := ⟨_, rfl⟩
      have HX := hid hX
      have HXC : Hid (actC l ⟨r1, s1⟩ p = ⟨r1, X⟩) := hid (by rw [← hX]; rfl)
      clear hz1 zm hcz hX hq b1' b4'
      have cel : ∀ {W : World}, Below w.heap.size w W → W.cell? (ad1.add (q * 2)) = some (.int .i32 r1) ∧ W.cell? { block := (ad1.add (q * 2)).block, off := (ad1.add (q * 2)).off + 1 } = some (.slice As1 s1.length cs1) := fun {W} yw =>
       Z03 (HCZ.out.keep (w' := W) fun q hq => (yw.cell (by rw [hq, Z0q]; exact AD1.out)).trans (YWR.out.cell (by rw [hq, Z0q]; exact AD1.out)).symm)
      have opb : ∀ {W : World}, Below wr.heap.size wr W → W.cell? (ad1.add (q * 2)) = some (.int .i32 r1) ∧ W.cell? { block := (ad1.add (q * 2)).block, off := (ad1.add (q * 2)).off + 1 } = some (.slice As1 s1.length cs1) ∧ W.cell? ⟨bx, 4, none⟩ = some (.slice Ap p.length cp) := fun {W} yw => by
       obtain ⟨a1, a2⟩ := cel (Z0a YWR.out yw)
       exact ⟨a1, a2, (Z3E ((yw.block bx (Z0c HBR.out)).trans HBR.out)).2.2.2.2⟩
      have YW : Hid (Below wr.heap.size wr wr.drew) := hid (Z0j (Below.refl _ _))
      have YZ : Hid (Below wr.heap.size wr wr) := hid (Below.refl _ _)
      have Cw := opb YZ.out
      have Cn := (Z3E HBR.out).2.1
      go_wp2_with (fail)
      clear Cn
      go_region_held_law (fun w' => w'.cell? (ad1.add (q * 2)) = some (.int .i32 r1) ∧ w'.cell? { block := (ad1.add (q * 2)).block, off := (ad1.add (q * 2)).off + 1 } = some (.slice As1 s1.length cs1) ∧ w'.cell? ⟨bx, 4, none⟩ = some (.slice Ap p.length cp)) (first | exact C9 | exact C8 | exact opb (by repeat (first | exact YW.out | exact YZ.out | refine Z0a ?_ (Z0b _ _) | refine Z0j ?_))) (first
       | (refine Z0M rfl 38 [.tmp 37, .tmp 43, .tmp 45] #[22, 38, 48] rfl Tryz.f38 (by kernel_rfl) (by kernel_rfl) (by kernel_rfl) [.slice A0 n0 c0, .agg #[.int .i32 r1, .slice As1 s1.length cs1], .slice Ap p.length cp] (by rfl) (Z5h A0 n0 c0 l r1 As1 Ap s1.length cs1 p.length cp s1 p _ N0.out (R0.out.ext (Z0a YWR.out (by repeat (first | exact YW.out | exact YZ.out | refine Z0a ?_ (Z0b _ _) | refine Z0j ?_)))) b0 rfl rfl (GZ.out.ext (Z0a YWR.out (by repeat (first | exact YW.out | exact YZ.out | refine Z0a ?_ (Z0b _ _) | refine Z0j ?_)))) (PW.out.2.2.ext (Z0a YWR.out (by repeat (first | exact YW.out | exact YZ.out | refine Z0a ?_ (Z0b _ _) | refine Z0j ?_)))) SZ.out.1 OK.out.2.2.2.1 SZ.out.2 OK.out.2.2.2.2) ?_
          rw [HX.out]
          rintro e7 w7 ⟨A7, c7, rfl, o7, y7⟩
          refine ⟨_, rfl, ?_⟩
          have O7 := hid o7
          have YW : Hid (Below wr.heap.size wr w7) := hid (Z0a (by repeat (first | exact YW.out | exact YZ.out | refine Z0a ?_ (Z0b _ _) | refine Z0j ?_)) y7)
          have C8 := opb YW.out
          clear o7 y7)
       | (refine Z49 (l := E) (m := [(⟨⟨r1, X⟩, A7, c7⟩ : ClS)]) rfl (.tmp 36) (.tmp 47) (by rfl) (by rfl) (HOW.out.below (Z0a YW.out (Z0b _ _)) (Nat.le_refl _)) _ _ 1 1 (by rfl) rfl (Z1s (enc := ClS.enc) (size := 2) _ _ (⟨⟨r1, X⟩, A7, c7⟩ : ClS) rfl (by simp)) (by have := AN.out; simp only [List.length_singleton]; clear hw2 hw3 hw4 hw5; omega) (Nat.le_trans YWR.out.size (Z0a YW.out (Z0b _ _)).size) ?_
          intro v9 w9 ho9 hgr9 hw9
          have RR := Z28 YWR.out HOW.out HPE.out (Z0a YW.out (Z0b _ _)) (M := [⟨⟨r1, X⟩, A7, c7⟩]) (fun z hz => by
           rw [List.mem_singleton] at hz; subst hz
           exact (O7.out.below (Z0b _ _) (Nat.le_refl _)).base_le (by simp)) hgr9 hw9
          have O9 := hid ho9
          have P9 := hid RR.1
          have Y9 := hid RR.2
          have HB9 : Hid (w9.heap[bx]? = some (.cells #[.int .u8 1, .int .i64 (N : Int), .slice Ar r.length cr, .slice As s.length cs, .slice Ap p.length cp] 50 (0, 0))) := hid ((hgr9.block bx (Nat.lt_of_lt_of_le (Z0c HBR.out) (Z0a YW.out (Z0b _ _)).size) (fun e => HOW.out.ne_type HBR.out (by decide) e.symm)).trans (((Z0a YW.out (Z0b _ _)).block bx (Z0c HBR.out)).trans HBR.out))
          have C9 : w9.cell? (ad1.add (q * 2)) = some (.int .i32 r1) ∧ w9.cell? { block := (ad1.add (q * 2)).block, off := (ad1.add (q * 2)).off + 1 } = some (.slice As1 s1.length cs1) ∧ w9.cell? ⟨bx, 4, none⟩ = some (.slice Ap p.length cp) := by
           obtain ⟨a1, a2⟩ := cel Y9.out
           exact ⟨a1, a2, (Z3E HB9.out).2.2.2.2⟩
          clear ho9 hgr9 hw9 RR))
      all_goals
       go_wp2_with (fail)
       go_roundg (N - (j + 1))
      all_goals first
       | (have := HG2.out; clear hw2 hw3 hw4 hw5; omega)
       | (refine ⟨j + 1, E ++ [⟨⟨r1, X⟩, A7, c7⟩], by clear hw2 hw3 hw4 hw5; omega, by simp; clear hw2 hw3 hw4 hw5; omega, rfl, by go_num, O9.out, P9, hid ?_, HB9, Y9.out⟩
          rw [show Z0e (E ++ [(⟨⟨r1, X⟩, A7, c7⟩ : ClS)]) = Z0e E ++ [⟨r1, X⟩] from by unfold Z0e; rw [List.map_append]; rfl, HE.out, List.take_add_one, HZ.out, List.map_append, List.append_assoc]
          simp only [Option.toList_some, List.map_cons, List.map_nil, HXC.out])
     have hlj' : ¬ (j : Int) < (N : Int) := by clear hw2 hw3; omega
     have hjn : j = N := by clear hw2 hw3; omega
     have D9 : Hid (DoneU l (Z0d (osOf (x.take (m + 1)))) (Z0e d) (Z0e E) (a + N)) := hid (by
      rw [UT.out, UO.out, HE.out, hjn]
      exact HD.out.ret (by rw [LD.out]; exact AN.out))
     have N9 : Hid (E.length ≤ 20000) := hid (by rw [← Z0s, D9.out.2.1]; exact T1.2)
     clear hjn HE HG2
     go_wp2_with (fail)
     go_roundg (n2 - (m + 1))
     case measure => have := HG.out; clear hw2 hw3; omega
     case rel => exact ⟨m + 1, a + N, E, by clear hw2 hw3; omega, AN.out, N9.out, rfl, by first | rfl | go_num, by go_num, HOW.out, HPE, D9, YWR.out⟩
  ·have hlt' : ¬ (m : Int) < (n2 : Int) := by omega
   have hmn : x.take m = x := List.take_of_length_le (by have := N2.out; omega)
   have HF : Hid (app l (Z0d (osOf x)) (Z0e d) = Z0e D ++ (Z0e d).drop a) := hid (by
    have h := HD.out.2.2 []
    rw [List.append_nil, hmn] at h
    exact h)
   obtain ⟨A8, hA8⟩ : ∃ X, advS A1 c1 a 2 = X := ⟨_, rfl⟩
   obtain ⟨n8, hn8⟩ : ∃ X, n1 - a = X := ⟨_, rfl⟩
   obtain ⟨c8, hc8⟩ : ∃ X, c1 - a = X := ⟨_, rfl⟩
   have sl1 : ∀ W, (Instr.slice 23 (.slice A1 n1 c1) (some (.int .i64 (a : Int))) none none).run Tryz.prog W = .ok (.slice A8 n8 c8) W := Z4X Tryz.slCl Tryz.elCl Z9a rfl hA8 hn8 hc8 ha k1
   have R8 : Hid (∀ v, Below w.heap.size w v → RdCl v v.heap.size A8 (d.drop a)) := hid (fun v hv => (R1.out.ext hv).from hA8 (by rw [← N1.out]; exact ha) (by rw [← N1.out]; exact k1))
   have L8 : Hid (n8 = (d.drop a).length) := hid (by rw [List.length_drop, ← N1.out]; exact hn8.symm)
   have B8 : Hid (n8 ≤ 10000) := hid (by omega)
   obtain ⟨R, hR⟩ : ∃ X, app l (Z0d (osOf x)) (Z0e d) = X := ⟨_, rfl⟩
   have HR := hid hR
   rw [hR]
   clear hA8 hn8 hc8 hmn hR HD HG
   obtain ⟨wo, hwo⟩ : ∃ X, X = wr := ⟨_, rfl⟩
   subst hwo
   go_wp2_with (go_at_call 15; refine Hid.out ?_)
   refine hid ?_
   refine (Z63 A8 n8 c8 (d.drop a) wo L8.out (R8.out wo y) (by have := B8.out; omega) (fun z hz => by have := (HS.out z (List.mem_of_mem_drop hz)).1; omega)).mono ?_
   rintro e w3 ⟨A3, k3, L3, rfl, h3, o3, p3, y3⟩
   have O3 := hid (o3.rd ClS.enc_len)
   have P3 : Hid (∀ z ∈ L3, OwAt w3 wo.heap.size (.slice z.As z.c.s.length z.cs) z.c.s) := hid (fun z hz => (p3 z hz).1)
   have E3 := hid h3
   have Y3 := hid y3
   have L3L : Hid (L3.length ≤ 10000) := hid (by have h := congrArg List.length h3; rw [Z0s, Z0s, ← L8.out] at h; have := B8.out; omega)
   clear h3 o3 p3 y3
   go_wp2_with ((at_builtin; refine Z95 (l := D) (m := L3) rfl (.tmp 62) (.tmp 66) rfl rfl (HOW.out.below Y3.out (Nat.le_refl _)) _ A3 k3 L3.length rfl rfl O3.out (by have := L3L.out; omega) (Nat.le_trans y.size Y3.out.size) ?_; intro v9 w9 ho9 hgr9 hw9))
   have RR := Z28 y HOW.out HP.out Y3.out P3.out hgr9 hw9
   obtain ⟨A9, k9, hv9, _, _⟩ := ho9.form
   subst hv9
   have O9 := hid ho9
   have P9 := hid RR.1
   have Y9 := hid RR.2
   clear ho9 hgr9 hw9 RR
   go_wp2_with (fail)
   go_ret
   refine ⟨A9, k9, D ++ L3, rfl, ?_, O9.out, P9.out, Y9.out⟩
   rw [HF.out, show Z0e (D ++ L3) = Z0e D ++ Z0e L3 from by unfold Z0e; rw [List.map_append], E3.out, Z47]
theorem Z5O {α : Type} {f : α → Bool} {l : List α} {m : Nat} {x : α} {R : Bool} (hd : l.drop m = x :: l.drop (m + 1)) (h : (l.drop m).all f = R) : (f x && (l.drop (m + 1)).all f) = R := by
 rw [hd] at h; simpa using h
theorem Z3j {A : Option Addr} {nn cc : Nat} {l : List Ky} {id k n f : Int} {t : ByteArray} {w : World} {O : List (Nat × Obj)} {b : Bool} (hT : Utf8Tabs 1 2 w) (hn : nn = l.length) (h : RdKy w w.heap.size A l) (hb : nn ≤ 140737488355328) (h0 : 0 ≤ f) (h1 : f < 18446744073709551616) (hsz : t.size ≤ 100000000) (x : GW w O) (hf : Z2C l id ⟨k, n, f, t⟩ = b) :
 Calls Tryz.prog 175 #[.slice A nn cc, .int .i64 id, .agg #[.int .u8 k, .int .i64 n, .int .u64 f, .string t]] x.val fun e w' => e = .returned (.bool b) ∧ ∃ y : GW w O, w' = y.val :=
 Z8c x ((Y1Z A nn cc l id k n f t x.val hn (h.ext x.ok.1) hb h0 h1 hsz (Z8d hT x)).mono fun e w' h' => ⟨by rw [h'.1, hf], h'.2⟩)
end Go.Proofs.YtfnkjcodcoehcaaGreatDoor
