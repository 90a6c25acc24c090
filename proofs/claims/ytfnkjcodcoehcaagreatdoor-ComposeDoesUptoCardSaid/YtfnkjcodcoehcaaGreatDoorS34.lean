/- Merged texts: Small20, MkBox, ComStep, RdrW. -/
import Derived.Test.YtfnkjcodcoehcaaGreatDoorS31
import Derived.Test.YtfnkjcodcoehcaaGreatDoorS17
import Derived.Test.YtfnkjcodcoehcaaGreatDoorS26
import Derived.Test.YtfnkjcodcoehcaaGreatDoorS24
import Derived.Test.YtfnkjcodcoehcaaGreatDoorS7
namespace Go.Proofs.YtfnkjcodcoehcaaGreatDoor
open Go.RowKit
set_option linter.unusedVariables false
set_option linter.unusedSimpArgs false

theorem units_mono (x : List OpS) (m : Nat) : (units (osOf (x.take m))).length ≤ (units (osOf x)).length := by
  obtain ⟨vs, h⟩ := units_pre x m
  rw [h, List.length_append]; omega
set_option maxRecDepth 100000 in
set_option maxHeartbeats 3200000 in
theorem small20_any (A : Option Addr) (n c : Nat) (x : List OpS) (most : Nat) (w : World) (hn : n = x.length) (h : RdOs w w.heap.size A x) (hi : ∀ o ∈ x, isOp o.o) (hb : n ≤ 1000000) (hm : most ≤ 1000000) :
    Calls Tryz.prog 44 #[.slice A n c, .int .i64 (most : Int)] w fun e w' => e = .returned (.bool (decide ((units (osOf x)).length ≤ most))) ∧ Below w.heap.size w w' := by
  have N0 := Lib.hid hn
  have HR := Lib.hid h
  have HI := Lib.hid hi
  obtain ⟨R, hR⟩ : ∃ X, decide ((units (osOf x)).length ≤ most) = X := ⟨_, rfl⟩
  have HRR := Lib.hid hR
  rw [hR]
  clear hn h hi hR
  go_enter Tryz.func44, Tryz.ntmps44
  go_wp2_with (fail)
  go_loopg [5, 6] n (fun g sv iv wr => ∃ (m a : Nat), m ≤ n ∧ a ≤ most ∧ g = n - m ∧ sv = .int .i64 (a : Int) ∧ iv = .int .i64 (m : Int) ∧ Hid (a = (units (osOf (x.take m))).length) ∧ Below w.heap.size w wr)
  case atStart => exact ⟨0, 0, Nat.zero_le _, Nat.zero_le _, rfl, rfl, rfl, Lib.hid rfl, Below.refl _ _⟩
  case round =>
    obtain ⟨m, a, hmm, ha, hg, rfl, rfl, HS, y⟩ := hrel
    have HG := Lib.hid hg
    clear hg
    by_cases hlt : m < n
    · have hlt' : (m : Int) < (n : Int) := by omega
      have hw2 : IntKind.i64.wrap ((m : Int) + 1) = (m : Int) + 1 := IntWalk.i64_in _ (by omega)
      obtain ⟨ad, o, rfl, _, _, hx, hcl⟩ := (HR.out.ext y).el (i := m) (by have := N0.out; clear hw2; omega)
      have OK := Lib.hid (HI.out o (List.mem_of_getElem? hx))
      have UT := Lib.hid (units_take hx)
      obtain ⟨⟨k, nn, r, s, p⟩, Ar, cr, As, cs, Ap, cp⟩ := o
      simp only at OK UT
      obtain ⟨z0, z1, z2, z3, z4⟩ := op_cells hcl
      obtain ⟨N, hN⟩ : ∃ N : Nat, (if k = 2 then (r.length : Int) else nn) = (N : Int) := ⟨_, unitsO_nat OK.out⟩
      have HN := Lib.hid hN
      have NU : Hid ((unitsO ⟨k, nn, r, s, p⟩).length = N) := Lib.hid (by have h := unitsO_nat OK.out; simp only at h; clear hw2; omega)
      have TOT : Hid (a + N ≤ (units (osOf x)).length) := Lib.hid (by have h := units_mono x (m + 1); rw [UT.out, List.length_append, NU.out, ← HS.out] at h; exact h)
      clear hx hcl hN
      go_wp2_with (go_at_call 111; refine Hid.out ?_)
      refine Lib.hid ?_
      refine (len15_any k nn Ar As Ap r.length s.length p.length cr cs cp _).mono ?_
      rw [HN.out]
      rintro e w2 ⟨rfl, y2⟩
      have Y2 := Lib.hid (ext_trans y y2)
      have hn0 : ¬ (N : Int) < 0 := by clear hw2; omega
      clear y2 z0 z1 z2 z3 z4
      by_cases h1 : most < N
      · have h1' : (most : Int) < (N : Int) := by clear hw2; omega
        have HF : Hid (R = false) := Lib.hid (by rw [← HRR.out]; exact decide_eq_false (by have := TOT.out; clear hw2; omega))
        go_wp2_with (fail)
        go_ret
        exact ⟨ret_bool HF.out.symm, Y2.out⟩
      have h1' : ¬ (most : Int) < (N : Int) := by clear hw2; omega
      have hw3 : IntKind.i64.wrap ((a : Int) + (N : Int)) = ((a + N : Nat) : Int) := by rw [show (a : Int) + (N : Int) = ((a + N : Nat) : Int) by omega]; exact IntWalk.i64_in _ (by clear hw2; omega)
      by_cases h2 : most < a + N
      · have h2' : (most : Int) < ((a + N : Nat) : Int) := by clear hw2 hw3; omega
        have HF : Hid (R = false) := Lib.hid (by rw [← HRR.out]; exact decide_eq_false (by have := TOT.out; clear hw2 hw3; omega))
        go_wp2_with (fail)
        go_ret
        exact ⟨ret_bool HF.out.symm, Y2.out⟩
      have h2' : ¬ (most : Int) < ((a + N : Nat) : Int) := by clear hw2 hw3; omega
      go_wp2_with (fail)
      go_roundg (n - (m + 1))
      case measure => have := HG.out; clear hw2 hw3; omega
      case rel => exact ⟨m + 1, a + N, by clear hw2 hw3; omega, by clear hw2 hw3; omega, rfl, by first | rfl | go_num, by go_num, Lib.hid (by rw [UT.out, List.length_append, NU.out, ← HS.out]), Y2.out⟩
    · have hlt' : ¬ (m : Int) < (n : Int) := by omega
      have HF : Hid (R = true) := Lib.hid (by
        rw [← HRR.out]
        have h := HS.out
        rw [List.take_of_length_le (by have := N0.out; omega)] at h
        exact decide_eq_true (by omega))
      go_wp2_with (fail)
      go_ret
      exact ⟨ret_bool HF.out.symm, y⟩
end Go.Proofs.YtfnkjcodcoehcaaGreatDoor
namespace Go.Proofs.YtfnkjcodcoehcaaGreatDoor
open Go.RowKit
set_option linter.unusedVariables false
set_option linter.unusedSimpArgs false

/-- a row of elements that do not fit into a block does not lie in it -/
theorem offF_one {α : Type} {enc : α → List Value} {size B b : Nat} {w : World} {A : Option Addr} {l : List α} {cs : Array Value} {t : TypeId} (h : Rd enc size w B A l) (hb : w.heap[b]? = some (.cells cs t (0, 0)))
    (hbad : ∀ (a : α) (o : Nat), (∀ (j : Nat) (u : Value), (enc a)[j]? = some u → cs[o + j]? = some u) → False) : OffF (fun k => k = b) A l.length := fun ad e hl hk => by
  obtain ⟨ad', e', _, hc⟩ := h hl
  rw [e] at e'; injection e' with e'; subst e'
  refine hbad l[0] ad.off (fun j u hu => ?_)
  have h1 := hc 0 hl j u hu
  rw [Nat.zero_mul, add_zero'] at h1
  unfold World.cell? at h1
  rw [add_block, hk, hb] at h1
  simp only at h1
  have e2 : (ad.add j).off = ad.off + j := by unfold Addr.add; split <;> simp_all
  rw [e2] at h1
  split at h1
  · cases h1
  · exact h1
/-- cells that are no rune, fewer than three -/
structure NoPart (cs : Array Value) : Prop where
  i : ∀ (r : Int) (o : Nat), cs[o]? ≠ some (.int .i32 r)
  s : cs.size < 3
theorem NoPart.rdr (A : Option Addr) (n c : Nat) (d : Int) : NoPart #[.slice A n c, .int .i64 d] := ⟨fun r o h => by
  match o with
  | 0 => simp at h
  | 1 => simp at h
  | o + 2 => simp at h, by simp⟩
theorem NoPart.one (A : Option Addr) (n c : Nat) : NoPart #[.slice A n c] := ⟨fun r o h => by
  match o with
  | 0 => simp at h
  | o + 1 => simp at h, by simp⟩
theorem NoPart.i32 {cs : Array Value} (h : NoPart cs) (a : Int) (o : Nat) (hh : ∀ (j : Nat) (u : Value), (encI32 a)[j]? = some u → cs[o + j]? = some u) : False := h.i a o (hh 0 _ rfl)
theorem NoPart.big {cs : Array Value} (h : NoPart cs) {l : List Value} (hl : 3 ≤ l.length) (o : Nat) (hh : ∀ (j : Nat) (u : Value), l[j]? = some u → cs[o + j]? = some u) : False := by
  have h1 := hh 2 l[2] (List.getElem?_eq_getElem (by omega))
  have h2 : o + 2 < cs.size := by
    rcases Nat.lt_or_ge (o + 2) cs.size with h3 | h3
    · exact h3
    · rw [Array.getElem?_eq_none h3] at h1; cases h1
  have := h.s
  omega
theorem Mkr.beside {w w' : World} {F : Nat → Prop} {b br : Nat} {m : Mk} {cs : Array Value} {t : TypeId} (h : Mkr w F b m) (hb : w.heap[br]? = some (.cells cs t (0, 0))) (hn : NoPart cs) (hF : ¬ F br)
    (g : Grow w (fun k => k = br) w' (fun k => k = br)) : Mkr w' F b m := by
  obtain ⟨vd, vi, D, I, h1, h2, h3, h4, h5, h6, h7, h8, h9, h10, h11, h12⟩ := h
  have oI : ∀ {A : Option Addr} {l : List Int}, RdI32 w w.heap.size A l → OffF (fun k => k = br) A l.length := fun h => offF_one h hb (fun a o hh => hn.i32 a o hh)
  have oA : ∀ {A : Option Addr} {l : List At}, RdAt w w.heap.size A l → OffF (fun k => k = br) A l.length := fun h => offF_one h hb (fun a o hh => hn.big (l := At.enc a) (by simp [At.enc]) o hh)
  have oC : ∀ {A : Option Addr} {l : List Ch}, RdCh w w.heap.size A l → OffF (fun k => k = br) A l.length := fun h => offF_one h hb (fun a o hh => hn.big (l := Ch.enc a) (by simp [Ch.enc]) o hh)
  have hne : ∀ k, F k → k ≠ br := fun k hk e => hF (e ▸ hk)
  have part : ∀ x, PartF w F x → PartF w' F x := fun x hx => ⟨⟨hx.1.1.grow g (oI hx.1.1), hx.1.2⟩, ⟨hx.2.1.1.grow g (oA hx.2.1.1), hx.2.1.2⟩, ⟨hx.2.2.1.grow g (oC hx.2.2.1), hx.2.2.2⟩⟩
  refine ⟨vd, vi, D, I, (g.block b (h6 b h7) (hne b h7)).trans h1, h2.grow g (fun k hk => hne k (h8 k hk).1), h3.grow g (fun k hk => hne k (h9 k hk).1), h4, h5, fun k hk => Nat.lt_of_lt_of_le (h6 k hk) g.size, h7, h8, h9, fun x hx => part x (h10 x hx), fun x hx => part x (h11 x hx), fun x hx => ?_⟩
  obtain ⟨e1, e2, e3, e4⟩ := h12 x hx
  exact ⟨e1.grow g (fun k hk => hne k (e2 k hk).1), e2, ⟨e3.1.grow g (oA e3.1), e3.2⟩, ⟨e4.1.grow g (oC e4.1), e4.2⟩⟩
end Go.Proofs.YtfnkjcodcoehcaaGreatDoor
namespace Go.Proofs.YtfnkjcodcoehcaaGreatDoor
set_option linter.unusedVariables false
set_option linter.unusedSimpArgs false

/-- an op's part from a on, of length n -/
def cutO (o : Opd) (a n : Nat) : Opd := if o.k = 2 then { o with r := (o.r.drop a).take n } else { o with n := n }
def lenO (o : Opd) : Nat := (sizeO o).toNat
theorem lenO_of {o : Opd} (h : isOp o) : 1 ≤ lenO o ∧ (lenO o : Int) = sizeO o := by
  unfold lenO
  rcases isOp_kind h with hk | hk | hk
  · obtain ⟨e, hr⟩ := opI_of h hk
    have h1 : sizeO o = o.r.length := by unfold sizeO; rw [if_pos hk]
    have := List.length_pos_iff.2 hr
    omega
  · obtain ⟨e, hn⟩ := opD_of h hk
    have h1 : sizeO o = o.n := by unfold sizeO; rw [if_neg (by rw [hk]; decide)]
    omega
  · obtain ⟨e, hn⟩ := opR_of h hk
    have h1 : sizeO o = o.n := by unfold sizeO; rw [if_neg (by rw [hk]; decide)]
    omega
/-- what take answers, and what is left -/
def tookV (X : List OpS) (a n : Nat) (o : Opd) (X' : List OpS) (a' : Nat) : Prop :=
  match X with
  | [] => o = opR n [] ∧ X' = [] ∧ a' = 0
  | x :: t => o = cutO x.o a (min n (lenO x.o - a)) ∧ ((a + min n (lenO x.o - a) = lenO x.o ∧ X' = t ∧ a' = 0) ∨ (a + min n (lenO x.o - a) < lenO x.o ∧ X' = x :: t ∧ a' = a + min n (lenO x.o - a)))
/-- the kind of what comes first -/
def kindR (X : List OpS) : Int := match X with
  | [] => 1
  | o :: _ => o.o.k
def longR (X : List OpS) (a : Nat) : Nat := match X with
  | [] => 536870912
  | o :: _ => lenO o.o - a
/-- the units that are left -/
def restU (X : List OpS) (a : Nat) : List Un := (units (osOf X)).drop a
theorem lenO_units {o : Opd} (h : isOp o) : (unitsO o).length = lenO o := by
  obtain ⟨_, h1⟩ := lenO_of h
  rcases isOp_kind h with hk | hk | hk
  · have h2 : (unitsO o).length = o.r.length := by unfold unitsO; rw [if_pos hk, List.length_map]
    have h3 : sizeO o = o.r.length := by unfold sizeO; rw [if_pos hk]
    omega
  · have h2 : (unitsO o).length = o.n.toNat := by unfold unitsO; rw [if_neg (by rw [hk]; decide), if_neg (by rw [hk]; decide), List.length_replicate]
    have h3 : sizeO o = o.n := by unfold sizeO; rw [if_neg (by rw [hk]; decide)]
    omega
  · have h2 : (unitsO o).length = o.n.toNat := by unfold unitsO; rw [if_neg (by rw [hk]; decide), if_pos hk, List.length_replicate]
    have h3 : sizeO o = o.n := by unfold sizeO; rw [if_neg (by rw [hk]; decide)]
    omega
/-- an op's part, its units -/
theorem cut_units {o : Opd} (h : isOp o) {a q : Nat} (hq : 1 ≤ q) (hl : a + q ≤ lenO o) : isOp (cutO o a q) ∧ unitsO (cutO o a q) = ((unitsO o).drop a).take q ∧ (cutO o a q).k = o.k ∧ (cutO o a q).s = o.s ∧ (cutO o a q).p = o.p := by
  have hu := lenO_units h
  rcases isOp_kind h with hk | hk | hk
  · obtain ⟨e, hr⟩ := opI_of h hk
    have h1 : unitsO o = o.r.map (fun r => Un.ins r o.s) := by unfold unitsO; rw [if_pos hk]
    have h2 : cutO o a q = opI ((o.r.drop a).take q) o.s := by
      unfold cutO; rw [if_pos hk]
      conv => lhs; rw [e]
      rfl
    rw [h1, List.length_map] at hu
    rw [h2, unitsO_I, h1, ← List.map_drop, ← List.map_take]
    refine ⟨isOp_opI (fun h0 => ?_), rfl, hk.symm, rfl, by rw [e]; rfl⟩
    have := congrArg List.length h0
    rw [List.length_take, List.length_drop] at this
    simp at this
    omega
  · obtain ⟨e, hn⟩ := opD_of h hk
    have h1 : unitsO o = List.replicate o.n.toNat .del := by unfold unitsO; rw [if_neg (by rw [hk]; decide), if_neg (by rw [hk]; decide)]
    have h2 : cutO o a q = opD (q : Int) := by unfold cutO; rw [if_neg (by rw [hk]; decide)]; rw [e]; rfl
    rw [h1, List.length_replicate] at hu
    rw [h2, unitsO_D, h1, List.drop_replicate, List.take_replicate, Nat.min_eq_left (by omega)]
    exact ⟨isOp_opD (by omega), rfl, hk.symm, by rw [e]; rfl, by rw [e]; rfl⟩
  · obtain ⟨e, hn⟩ := opR_of h hk
    have h1 : unitsO o = List.replicate o.n.toNat (.ret o.p) := by unfold unitsO; rw [if_neg (by rw [hk]; decide), if_pos hk]
    have h2 : cutO o a q = opR (q : Int) o.p := by
      unfold cutO; rw [if_neg (by rw [hk]; decide)]
      conv => lhs; rw [e]
      rfl
    rw [h1, List.length_replicate] at hu
    rw [h2, unitsO_R, h1, List.drop_replicate, List.take_replicate, Nat.min_eq_left (by omega)]
    exact ⟨isOp_opR (by omega), rfl, hk.symm, by rw [e]; rfl, rfl⟩
/-- what was taken, and what is left -/
theorem took_units {x : OpS} {t X' : List OpS} {a n a' : Nat} {o : Opd} (hx : isOp x.o) (ha : a < lenO x.o) (hn : 1 ≤ n) (h : tookV (x :: t) a n o X' a') :
    restU (x :: t) a = unitsO o ++ restU X' a' ∧ isOp o ∧ (unitsO o).length = min n (lenO x.o - a) ∧ o.k = x.o.k ∧ o.s = x.o.s ∧ o.p = x.o.p := by
  obtain ⟨h1, h2⟩ := h
  obtain ⟨g1, g2, g3, g4, g5⟩ := cut_units hx (a := a) (q := min n (lenO x.o - a)) (by omega) (by omega)
  rw [← h1] at g1 g2 g3 g4 g5
  have hl := lenO_units hx
  have e : units (osOf (x :: t)) = unitsO x.o ++ units (osOf t) := rfl
  have hlen : (unitsO o).length = min n (lenO x.o - a) := by rw [g2, List.length_take, List.length_drop, hl]; omega
  refine ⟨?_, g1, hlen, g3, g4, g5⟩
  unfold restU
  rw [e, List.drop_append_of_le_length (by omega), g2]
  rcases h2 with ⟨h3, rfl, rfl⟩ | ⟨h3, rfl, rfl⟩
  · rw [List.take_of_length_le (by rw [List.length_drop]; omega), List.drop_zero]
  · rw [e, List.drop_append_of_le_length (by omega), ← List.append_assoc, ← List.drop_drop, List.take_append_drop]
/-- ins units counted -/
def insN : List Un → Nat
  | [] => 0
  | .ins _ _ :: us => insN us + 1
  | _ :: us => insN us
theorem insN_append (a b : List Un) : insN (a ++ b) = insN a + insN b := by
  induction a with
  | nil => simp [insN]
  | cons u a ih => cases u <;> simp [insN, ih] <;> omega
theorem insN_ins (r : List Int) (s : List At) : insN (r.map (fun r => Un.ins r s)) = r.length := by
  induction r with
  | nil => rfl
  | cons a r ih => show insN _ + 1 = _; rw [ih]; rfl
theorem insN_x (x : List OpS) (h : ∀ o ∈ x, isOp o.o) : x.length + insN (units (osOf x)) ≤ szN x := by
  induction x with
  | nil => exact Nat.le_refl _
  | cons a x ih =>
    have h1 := ih (fun o ho => h o (List.mem_cons_of_mem _ ho))
    have e : units (osOf (a :: x)) = unitsO a.o ++ units (osOf x) := rfl
    rw [e, insN_append, szN_cons, List.length_cons]
    have : insN (unitsO a.o) ≤ a.o.r.length := by
      rcases isOp_kind (h a (by simp)) with hk | hk | hk
      · unfold unitsO; rw [if_pos hk, insN_ins]; exact Nat.le_refl _
      · have : ∀ k, insN (List.replicate k .del) = 0 := fun k => by
          induction k with
          | zero => rfl
          | succ k ih => rw [List.replicate_succ]; exact ih
        unfold unitsO; rw [if_neg (by rw [hk]; decide), if_neg (by rw [hk]; decide), this]; exact Nat.zero_le _
      · have : ∀ k p, insN (List.replicate k (.ret p)) = 0 := fun k p => by
          induction k with
          | zero => rfl
          | succ k ih => rw [List.replicate_succ]; exact ih
        unfold unitsO; rw [if_neg (by rw [hk]; decide), if_pos hk, this]; exact Nat.zero_le _
    omega
/-- the rounds' steps -/
theorem comp_ins (l : List Ky) (A B : List Un) (s : List At) : ∀ r : List Int, compU l A (r.map (fun r => Un.ins r s) ++ B) = r.map (fun r => Un.ins r s) ++ compU l A B
  | [] => rfl
  | a :: r => by
    show compU l A (.ins a s :: (r.map (fun r => Un.ins r s) ++ B)) = _
    rw [compU_ins, comp_ins l A B s r]; rfl
theorem comp_del (l : List Ky) (A B : List Un) (v : Un) (hv : v = .del ∨ ∃ q, v = .ret q) : ∀ k, compU l (List.replicate k .del ++ A) (v :: B) = List.replicate k .del ++ compU l A (v :: B)
  | 0 => rfl
  | k + 1 => by
    rw [List.replicate_succ]
    show compU l (.del :: (List.replicate k .del ++ A)) (v :: B) = _
    rcases hv with rfl | ⟨q, rfl⟩
    · rw [compU_dd, comp_del l A B _ (.inl rfl) k]; rfl
    · rw [compU_dr, comp_del l A B _ (.inr ⟨q, rfl⟩) k]; rfl
theorem comp_retret (l : List Ky) (A B : List Un) (p q : List Ch) : ∀ k, compU l (List.replicate k (.ret p) ++ A) (List.replicate k (.ret q) ++ B) = List.replicate k (.ret (composeP p q)) ++ compU l A B
  | 0 => rfl
  | k + 1 => by
    rw [List.replicate_succ, List.replicate_succ, List.replicate_succ]
    show compU l (.ret p :: (List.replicate k (.ret p) ++ A)) (.ret q :: (List.replicate k (.ret q) ++ B)) = _
    rw [compU_rr, comp_retret l A B p q k]; rfl
theorem comp_retdel (l : List Ky) (A B : List Un) (p : List Ch) : ∀ k, compU l (List.replicate k (.ret p) ++ A) (List.replicate k .del ++ B) = List.replicate k .del ++ compU l A B
  | 0 => rfl
  | k + 1 => by
    rw [List.replicate_succ, List.replicate_succ]
    show compU l (.ret p :: (List.replicate k (.ret p) ++ A)) (.del :: (List.replicate k .del ++ B)) = _
    rw [compU_rd, comp_retdel l A B p k]; rfl
theorem comp_insret (l : List Ky) (A B : List Un) (s : List At) (q : List Ch) : ∀ r : List Int, compU l (r.map (fun r => Un.ins r s) ++ A) (List.replicate r.length (.ret q) ++ B) = r.map (fun x => Un.ins x (actC l ⟨x, s⟩ q).s) ++ compU l A B
  | [] => rfl
  | a :: r => by
    rw [List.length_cons, List.replicate_succ]
    show compU l (.ins a s :: (r.map (fun r => Un.ins r s) ++ A)) (.ret q :: (List.replicate r.length (.ret q) ++ B)) = _
    rw [compU_ir, comp_insret l A B s q r]; rfl
theorem comp_nilret (l : List Ky) (B : List Un) (q : List Ch) : ∀ k, compU l [] (List.replicate k (.ret q) ++ B) = List.replicate k (.ret (composeP [] q)) ++ compU l [] B
  | 0 => rfl
  | k + 1 => by
    rw [List.replicate_succ, List.replicate_succ]
    show compU l [] (.ret q :: (List.replicate k (.ret q) ++ B)) = _
    rw [compU_nr, comp_nilret l B q k]; rfl
theorem comp_nildel (l : List Ky) (B : List Un) : ∀ k, compU l [] (List.replicate k .del ++ B) = List.replicate k .del ++ compU l [] B
  | 0 => rfl
  | k + 1 => by
    rw [List.replicate_succ]
    show compU l [] (.del :: (List.replicate k .del ++ B)) = _
    rw [compU_nd, comp_nildel l B k]; rfl
end Go.Proofs.YtfnkjcodcoehcaaGreatDoor
namespace Go.Proofs.YtfnkjcodcoehcaaGreatDoor
open Go.RowKit
set_option linter.unusedVariables false
set_option linter.unusedSimpArgs false

/-- a reader: what is left to read, and how much of the first op is done -/
def Rdr (w0 w : World) (b : Nat) (X : List OpS) (a : Nat) : Prop :=
  ∃ A n c, w.heap[b]? = some (.cells #[.slice A n c, .int .i64 (a : Int)] 141 (0, 0)) ∧ OpsC w0 A n c X ∧ (∀ o ∈ X, isOp o.o ∧ lenO o.o ≤ 536870912) ∧ (X = [] → a = 0) ∧ ∀ o t, X = o :: t → a < lenO o.o
theorem Rdr.lt {w0 w : World} {b a : Nat} {X : List OpS} (h : Rdr w0 w b X a) : b < w.heap.size := by
  obtain ⟨A, n, c, hb, _⟩ := h; exact lt_of_some hb
theorem Rdr.ext {w0 w w' : World} {b a : Nat} {X : List OpS} (h : Rdr w0 w b X a) (y : Below w.heap.size w w') : Rdr w0 w' b X a := by
  obtain ⟨A, n, c, hb, h1, h2⟩ := h
  exact ⟨A, n, c, (y.block b (lt_of_some hb)).trans hb, h1, h2⟩
theorem Tryz.slOp0 : Tryz.prog.underlying 44 = some (.slice 50) := by kernel_rfl

theorem rdr_over {w : World} {b a : Nat} {X : List OpS} {A : Option Addr} {n c : Nat} (h : OpsC w A n c X) : ((n : Int) == 0) = decide (X = []) := by
  have hl := h.at_.len
  cases X with
  | nil => simp at hl; subst hl; rfl
  | cons o t => simp at hl; subst hl; simp; omega
set_option maxHeartbeats 1600000 in
theorem rdrOver_any (b : Nat) (X : List OpS) (a : Nat) (w0 w : World) (h : Rdr w0 w b X a) (Y : Below w0.heap.size w0 w) :
    Calls Tryz.prog 98 #[.pointer (some ⟨b, 0, none⟩)] w fun e w' => e = .returned (.bool (decide (X = []))) ∧ ∃ d, w' = w.drewN d := by
  obtain ⟨A, n, c, hb, hX, _⟩ := h
  have hd := rdr_over (b := b) (a := a) hX
  obtain ⟨R, hR⟩ : ∃ R, decide (X = []) = R := ⟨_, rfl⟩
  rw [hR] at hd ⊢
  have c0 : w.cell? ⟨b, 0, none⟩ = some (.slice A n c) := by simp [World.cell?, hb]
  clear hX hb hR
  go_enter Tryz.func98, Tryz.ntmps98
  go_wp2_with (fail)
  go_ret
  exact ⟨rfl, 0, rfl⟩
set_option maxRecDepth 100000 in
set_option maxHeartbeats 1600000 in
theorem left_any (b : Nat) (A : Option Addr) (n c : Nat) (o : OpS) (t : List OpS) (a : Nat) (w0 w : World) (hb : w.heap[b]? = some (.cells #[.slice A n c, .int .i64 (a : Int)] 141 (0, 0))) (hX : OpsC w0 A n c (o :: t)) (h1 : isOp o.o) (h2 : lenO o.o ≤ 536870912) (h3 : a ≤ lenO o.o) (Y : Below w0.heap.size w0 w) :
    Calls Tryz.prog 171 #[.pointer (some ⟨b, 0, none⟩)] w fun e w' => e = .returned (.int .i64 ((lenO o.o - a : Nat) : Int)) ∧ ∃ d, w' = w.drewN d := by
  obtain ⟨_, h4⟩ := lenO_of h1
  have hlen := hX.at_.len
  obtain ⟨ad, x, rfl, had, _, hx1, hc1⟩ := (hX.at_.rd.ext Y).1.el (i := 0) (by simp)
  have hxo : x = o := by simpa using hx1.symm
  subst hxo
  have hn : 1 ≤ n := by simp at hlen; omega
  have c0 : w.cell? ⟨b, 0, none⟩ = some (.slice (some ad) n c) := by simp [World.cell?, hb]
  have c1 : w.cell? ⟨b, 1, none⟩ = some (.int .i64 (a : Int)) := by simp [World.cell?, hb]
  obtain ⟨L, hL⟩ : ∃ L, lenO x.o = L := ⟨_, rfl⟩
  rw [hL] at h2 h3 h4 ⊢
  have HS : Hid (sizeO x.o = (L : Int)) := Lib.hid h4.symm
  have hwr : IntKind.i64.wrap ((L : Int) - (a : Int)) = ((L - a : Nat) : Int) := by rw [IntWalk.i64_in _ (by omega)]; omega
  have hwr' : wrap64 ((L : Int) - (a : Int)) = ((L - a : Nat) : Int) := by rw [w64_in _ (by omega)]; omega
  obtain ⟨⟨k, nn, r, s, p⟩, Ar, cr, As, cs, Ap, cp⟩ := x
  rw [Nat.zero_mul, add_zero'] at hc1
  obtain ⟨z0, z1, z2, z3, z4⟩ := op_cells hc1
  clear hX hb hx1 hc1 h1 h2 h3 h4 hL hlen
  by_cases hk : k = 2
  · subst hk
    have hs : Hid ((r.length : Int) = (L : Int)) := Lib.hid HS.out
    go_enter Tryz.func171, Tryz.ntmps171
    go_wp2_with (fail)
    go_quiet (fail)
    go_wp2_with (fail)
    go_ret
    refine ⟨?_, _, rfl⟩
    show Ending.returned (.int .i64 (wrap64 ((r.length : Int) - (a : Int)))) = _
    rw [hs.out, hwr']
  · have hk' : (k == 2) = false := beq_eq_false_iff_ne.2 hk
    have hs : nn = (L : Int) := by have := HS.out; unfold sizeO at this; rw [if_neg hk] at this; exact this
    subst hs
    go_enter Tryz.func171, Tryz.ntmps171
    go_wp2_with (fail)
    go_quiet (fail)
    go_wp2_with (fail)
    go_ret
    exact ⟨rfl, _, rfl⟩
theorem rdrLeft_any (b : Nat) (o : OpS) (t : List OpS) (a : Nat) (w0 w : World) (h : Rdr w0 w b (o :: t) a) (Y : Below w0.heap.size w0 w) :
    Calls Tryz.prog 171 #[.pointer (some ⟨b, 0, none⟩)] w fun e w' => e = .returned (.int .i64 ((lenO o.o - a : Nat) : Int)) ∧ ∃ d, w' = w.drewN d := by
  obtain ⟨A, n, c, hb, hX, hI, _, hlt⟩ := h
  obtain ⟨h1, h2⟩ := hI o (by simp)
  exact left_any b A n c o t a w0 w hb hX h1 h2 (Nat.le_of_lt (hlt o t rfl)) Y
set_option maxHeartbeats 1600000 in
theorem rdrKind_any (b : Nat) (X : List OpS) (a : Nat) (w0 w : World) (h : Rdr w0 w b X a) (Y : Below w0.heap.size w0 w) :
    Calls Tryz.prog 99 #[.pointer (some ⟨b, 0, none⟩)] w fun e w' => e = .returned (.int .u8 (kindR X)) ∧ ∃ d, w' = w.drewN d := by
  have HC := Lib.hid (rdrOver_any b X a w0 w h Y)
  obtain ⟨A, n, c, hb, hX, _⟩ := h
  have c0 : w.cell? ⟨b, 0, none⟩ = some (.slice A n c) := by simp [World.cell?, hb]
  cases X with
  | nil =>
    clear hX hb
    go_enter Tryz.func99, Tryz.ntmps99
    go_wp2_with (go_at_call 98; refine Hid.out ?_)
    refine Lib.hid ?_
    refine HC.out.mono ?_
    rintro e w1 ⟨rfl, d, rfl⟩
    go_wp2_with (fail)
    go_ret
    exact ⟨rfl, _, rfl⟩
  | cons o t =>
    have hlen := hX.at_.len
    obtain ⟨ad, x, rfl, had, _, hx1, hc1⟩ := (hX.at_.rd.ext Y).1.el (i := 0) (by simp)
    have hxo : x = o := by simpa using hx1.symm
    subst hxo
    have hn : 1 ≤ n := by simp at hlen; omega
    obtain ⟨⟨k, nn, r, s, p⟩, Ar, cr, As, cs, Ap, cp⟩ := x
    rw [Nat.zero_mul, add_zero'] at hc1
    obtain ⟨z0, z1, z2, z3, z4⟩ := op_cells hc1
    have hk : kindR (⟨⟨k, nn, r, s, p⟩, Ar, cr, As, cs, Ap, cp⟩ :: t) = k := rfl
    rw [hk]
    have hdec : decide ((⟨⟨k, nn, r, s, p⟩, Ar, cr, As, cs, Ap, cp⟩ :: t : List OpS) = []) = false := rfl
    rw [hdec] at HC
    clear hX hb hx1 hc1 hk hdec hlen
    go_enter Tryz.func99, Tryz.ntmps99
    go_wp2_with (go_at_call 98; refine Hid.out ?_)
    refine Lib.hid ?_
    refine HC.out.mono ?_
    rintro e w1 ⟨rfl, d, rfl⟩
    go_wp2_with (fail)
    go_ret
    exact ⟨rfl, _, rfl⟩
set_option maxHeartbeats 1600000 in
theorem rdrLong_any (b : Nat) (X : List OpS) (a : Nat) (w0 w : World) (h : Rdr w0 w b X a) (Y : Below w0.heap.size w0 w) :
    Calls Tryz.prog 102 #[.pointer (some ⟨b, 0, none⟩)] w fun e w' => e = .returned (.int .i64 ((longR X a : Nat) : Int)) ∧ ∃ d, w' = w.drewN d := by
  have HC := Lib.hid (rdrOver_any b X a w0 w h Y)
  cases X with
  | nil =>
    go_enter Tryz.func102, Tryz.ntmps102
    go_wp2_with (go_at_call 98; refine Hid.out ?_)
    refine Lib.hid ?_
    refine HC.out.mono ?_
    rintro e w1 ⟨rfl, d, rfl⟩
    go_wp2_with (fail)
    go_ret
    exact ⟨rfl, _, rfl⟩
  | cons o t =>
    have hdec : decide ((o :: t : List OpS) = []) = false := rfl
    rw [hdec] at HC
    have HH := Lib.hid h
    have hk : longR (o :: t) a = lenO o.o - a := rfl
    rw [hk]
    generalize hg : lenO o.o - a = G
    have HG := Lib.hid hg
    clear h hdec hk hg
    go_enter Tryz.func102, Tryz.ntmps102
    go_wp2_with (go_at_call 98; refine Hid.out ?_)
    refine Lib.hid ?_
    refine HC.out.mono ?_
    rintro e w1 ⟨rfl, d, rfl⟩
    go_wp2_with (go_at_call 171; refine Hid.out ?_)
    refine Lib.hid ?_
    refine (rdrLeft_any b o t a w0 _ (HH.out.ext (ext_drew w d)) (Y.trans ((ext_drew w d).mono Y.size))).mono ?_
    rw [HG.out]
    rintro e w2 ⟨rfl, d2, rfl⟩
    go_wp2_with (fail)
    go_ret
    exact ⟨rfl, _, rfl⟩
theorem Tryz.elI32r : Tryz.prog.elem 47 = 21 := by kernel_rfl
theorem Tryz.szI32r0 : (Tryz.prog.info? 21).map (·.size) = some 1 := by kernel_rfl
theorem Tryz.szI32r (W : World) : (sizeOf 21).run Tryz.prog W = .ok 1 W := by
  cases h : Tryz.prog.info? 21 with
  | none => have := Tryz.szI32r0; rw [h] at this; cases this
  | some i => have := Tryz.szI32r0; rw [h] at this; simp at this; simp [sizeOf, typeInfo, h, this]
def Took (b : Nat) (X : List OpS) (a n : Nat) (w0 w : World) (e : Ending) (w' : World) : Prop :=
  ∃ (o : OpS) (X' : List OpS) (a' : Nat), e = .returned o.val ∧ tookV X a n o.o X' a' ∧ OpIn w0 o ∧ capO o ∧ okOp o.o ∧ Rdr w0 w' b X' a' ∧ Grow w (fun k => k = b) w' (fun k => k = b)
theorem Tryz.unOp : Tryz.prog.underlying 50 = some (.struct (Tryz.prog.fieldsOf 50)) := by kernel_rfl
theorem Tryz.szOp9 : (Tryz.prog.info? 50).map (·.size) = some 5 := by kernel_rfl
theorem Rdr.keep {w0 w w' : World} {b a : Nat} {X : List OpS} (h : Rdr w0 w b X a) (hb : w'.heap[b]? = w.heap[b]?) : Rdr w0 w' b X a := by
  obtain ⟨A, n, c, h1, h2⟩ := h
  exact ⟨A, n, c, hb.trans h1, h2⟩
theorem cap_zero {n : Int} : capO (⟨opR n [], none, 0, none, 0, none, 0⟩ : OpS) := by
  unfold capO maxLen
  simp [opR]
theorem set5 {w : World} {b : Nat} {t : TypeId} {u0 u1 u2 u3 u4 : Value} (h : w.heap[b]? = some (.cells #[u0, u1, u2, u3, u4] t (0, 0))) (v0 v1 v2 v3 v4 : Value) :
    (((((w.setCell ⟨b, 0, none⟩ v0).setCell ⟨b, 1, none⟩ v1).setCell ⟨b, 2, none⟩ v2).setCell ⟨b, 3, none⟩ v3).setCell ⟨b, 4, none⟩ v4).heap[b]? = some (.cells #[v0, v1, v2, v3, v4] t (0, 0)) := by
  have h0 := heap_setCell_self (j := 0) h v0
  have h1 := heap_setCell_self (j := 1) h0 v1
  have h2 := heap_setCell_self (j := 2) h1 v2
  have h3 := heap_setCell_self (j := 3) h2 v3
  have h4 := heap_setCell_self (j := 4) h3 v4
  simpa using h4
theorem below_set5 {B : Nat} {w0 w : World} {b : Nat} (h : Below B w0 w) (hb : B ≤ b) (v0 v1 v2 v3 v4 : Value) :
    Below B w0 (((((w.setCell ⟨b, 0, none⟩ v0).setCell ⟨b, 1, none⟩ v1).setCell ⟨b, 2, none⟩ v2).setCell ⟨b, 3, none⟩ v3).setCell ⟨b, 4, none⟩ v4) :=
  ((((h.setCell (p := ⟨b, 0, none⟩) hb _).setCell (p := ⟨b, 1, none⟩) hb _).setCell (p := ⟨b, 2, none⟩) hb _).setCell (p := ⟨b, 3, none⟩) hb _).setCell (p := ⟨b, 4, none⟩) hb _
set_option maxRecDepth 100000 in
set_option maxHeartbeats 3200000 in
theorem rdrTake0_any (b n : Nat) (w0 w : World) (h : Rdr w0 w b [] 0) (Y : Below w0.heap.size w0 w) (hn : n ≤ 536870912) :
    Calls Tryz.prog 101 #[.pointer (some ⟨b, 0, none⟩), .int .i64 (n : Int)] w (Took b [] 0 n w0 w) := by
  have HH := Lib.hid h
  clear h
  go_enter Tryz.func101, Tryz.ntmps101
  have ya := ext_alloc w (.cells #[.int .u8 0, .int .i64 0, .slice none 0 0, .slice none 0 0, .slice none 0 0] 50)
  have hba := heap_alloc_new w (.cells #[.int .u8 0, .int .i64 0, .slice none 0 0, .slice none 0 0, .slice none 0 0] 50)
  have H1 := Lib.hid (HH.out.ext ya)
  go_wp2_with (go_at_call 98; refine Hid.out ?_)
  refine Lib.hid ?_
  refine (rdrOver_any b [] 0 w0 _ H1.out (Y.trans (ya.mono Y.size))).mono ?_
  rintro e w1 ⟨rfl, d, rfl⟩
  have yb := ext_trans ya (ext_drew _ d)
  have hbb : ((w.alloc (.cells #[.int .u8 0, .int .i64 0, .slice none 0 0, .slice none 0 0, .slice none 0 0] 50)).drewN d).heap[w.heap.size]? = _ := hba
  generalize (w.alloc (.cells #[.int .u8 0, .int .i64 0, .slice none 0 0, .slice none 0 0, .slice none 0 0] 50)).drewN d = w2 at *
  have hfz := fun j => box_thaw hbb j
  have hltb := lt_of_some hbb
  have HBB := Lib.hid hbb
  have YB := Lib.hid yb
  have f0 := hfz 0
  have f1 := hfz 1
  have f2 := hfz 2
  have f3 := hfz 3
  have f4 := hfz 4
  have g0 : w2.cell? ⟨w.heap.size, 0, none⟩ = some (.int .u8 0) := by simp [World.cell?, hbb]
  have g1 : w2.cell? ⟨w.heap.size, 1, none⟩ = some (.int .i64 0) := by simp [World.cell?, hbb]
  have g2 : w2.cell? ⟨w.heap.size, 2, none⟩ = some (.slice none 0 0) := by simp [World.cell?, hbb]
  have g3 : w2.cell? ⟨w.heap.size, 3, none⟩ = some (.slice none 0 0) := by simp [World.cell?, hbb]
  have g4 : w2.cell? ⟨w.heap.size, 4, none⟩ = some (.slice none 0 0) := by simp [World.cell?, hbb]
  clear ya yb hba hbb hfz
  go_wp2_with (fail)
  refine bodyPost_ret (results_cell_row (P := Tryz.prog) rfl _ _ w.heap.size 50 #[.int .u8 1, .int .i64 (n : Int), .slice none 0 0, .slice none 0 0, .slice none 0 0] (0, 0) _ rfl (set5 HBB.out _ _ _ _ _) Tryz.unOp rfl Tryz.szOp9) rfl ?_
  have y9 := below_set5 (b := w.heap.size) YB.out (Nat.le_refl _) (.int .u8 1) (.int .i64 (n : Int)) (.slice none 0 0) (.slice none 0 0) (.slice none 0 0)
  exact ⟨⟨opR (n : Int) [], none, 0, none, 0, none, 0⟩, [], 0, rfl, ⟨rfl, rfl, rfl⟩, ⟨Rd.nil, Rd.nil, Rd.nil, by simp [opR], by simp [opR], by simp [opR]⟩, cap_zero,
    ⟨(fun c hc => by cases hc), (fun c hc => by cases hc), by simp [opR], by simp [opR], by simp [opR]⟩, HH.out.keep (y9.block b HH.out.lt), Grow.of y9⟩
end Go.Proofs.YtfnkjcodcoehcaaGreatDoor
