/- Merged texts: OpSize, NormLaw, ComStep, BothM. -/
import Derived.Test.YtbdkbfoplpociaaGreatDoorK30
import Derived.Test.YtbdkbfoplpociaaGreatDoorK29
import Derived.Test.YtbdkbfoplpociaaGreatDoorK31
namespace Go.Proofs.YtbdkbfoplpociaaGreatDoor
open Go.RowKit
set_option linter.unusedVariables false
set_option linter.unusedSimpArgs false

def szA (s : List At) : Nat := (s.map (fun a => a.v.s.size)).sum
def szC (p : List Ch) : Nat := (p.map (fun a => a.v.s.size)).sum
def szO (o : Opd) : Nat := 1 + o.r.length + o.s.length + o.p.length + szA o.s + szC o.p
def szX (x : List OpS) : Nat := (x.map (fun o => szO o.o)).sum
theorem sum_take1 {α : Type} (f : α → Nat) {l : List α} {i : Nat} {a : α} (h : l[i]? = some a) : ((l.take (i + 1)).map f).sum = ((l.take i).map f).sum + f a := by
  rw [List.take_add_one, h]; simp
theorem sum_take_le {α : Type} (f : α → Nat) (l : List α) (i : Nat) : ((l.take i).map f).sum ≤ (l.map f).sum := by
  conv => rhs; rw [← List.take_append_drop i l]
  rw [List.map_append, List.sum_append]; omega
theorem szX_mem {x : List OpS} {o : OpS} (h : o ∈ x) : szO o.o ≤ szX x := by
  induction x with
  | nil => cases h
  | cons a x ih =>
    show _ ≤ szO a.o + szX x
    rcases List.mem_cons.1 h with rfl | h
    · omega
    · have := ih h; omega

set_option maxRecDepth 100000 in
set_option maxHeartbeats 1600000 in
theorem sizeX2_any (A : Option Addr) (n c : Nat) (x : List OpS) (w : World) (hn : n = x.length) (h : RdOp w w.heap.size A x) (hb : n ≤ 140737488355328) (hz : szX x ≤ 4611686018427387904) :
    Calls Tryz.prog 86 #[.slice A n c] w fun e w' => e = .returned (.int .i64 (szX x : Int)) ∧ ∃ d, w' = w.drewN d := by
  have N := Lib.hid hn
  have Z := Lib.hid hz
  clear hn hz
  go_enter Tryz.func86, Tryz.ntmps86
  go_wp2_with (fail)
  go_loopg [3, 4] n (fun g av iv wr => ∃ (m a : Nat), m ≤ n ∧ g = n - m ∧ a = szX (x.take m) ∧ av = .int .i64 (a : Int) ∧ iv = .int .i64 (m : Int) ∧ ∃ d, wr = w.drewN d)
  case atStart => exact ⟨0, 0, by omega, rfl, rfl, rfl, rfl, 0, rfl⟩
  case round =>
    obtain ⟨m, a, hm, hg, ha, rfl, rfl, d, rfl⟩ := hrel
    have HG := Lib.hid hg
    have HA := Lib.hid ha
    clear hg ha
    by_cases hlt : m < n
    · have hl1 : m < x.length := by have := N.out; omega
      obtain ⟨ad, o, had0, had, hd1, hx1, hc0⟩ := h.1.el hl1
      subst had0
      have hmem := List.mem_of_getElem? hx1
      obtain ⟨g1, g2, g3⟩ := h.2 o hmem
      have TK : Hid (szX (x.take (m + 1)) = a + szO o.o) := Lib.hid (by rw [HA.out]; exact sum_take1 (fun o : OpS => szO o.o) hx1)
      have TB : Hid (a + szO o.o ≤ 4611686018427387904) := Lib.hid (by rw [← TK.out]; exact Nat.le_trans (sum_take_le (fun o : OpS => szO o.o) x (m + 1)) Z.out)
      obtain ⟨⟨k, nn, r, s, p⟩, Ar, cr, As, cs, Ap, cp⟩ := o
      simp only at g1 g2 g3 TK TB
      obtain ⟨r0, r1, r2, r3, r4⟩ := op_cells hc0
      obtain ⟨nr, hnr⟩ : ∃ X, r.length = X := ⟨_, rfl⟩
      obtain ⟨ns, hns⟩ : ∃ X, s.length = X := ⟨_, rfl⟩
      obtain ⟨np, hnp⟩ : ∃ X, p.length = X := ⟨_, rfl⟩
      have SO : Hid (szO ⟨k, nn, r, s, p⟩ = 1 + nr + ns + np + szA s + szC p) := Lib.hid (by rw [← hnr, ← hns, ← hnp]; rfl)
      have NS := Lib.hid hns
      have NP := Lib.hid hnp
      have B0 : a + 1 + nr + ns + np ≤ 4611686018427387904 := by have := TB.out; rw [SO.out] at this; omega
      rw [hnr] at r2
      rw [hns] at r3
      rw [hnp] at r4
      have hw2 : IntKind.i64.wrap ((m:Int) + 1) = (m : Int) + 1 := IntWalk.i64_in _ (by omega)
      have e1 : IntKind.i64.wrap ((a:Int) + 1) = (a : Int) + 1 := IntWalk.i64_in _ (by omega)
      have e2 : IntKind.i64.wrap ((a:Int) + 1 + (nr : Int)) = (a : Int) + 1 + nr := IntWalk.i64_in _ (by omega)
      have e3 : IntKind.i64.wrap ((a:Int) + 1 + (nr : Int) + (ns : Int)) = (a : Int) + 1 + nr + ns := IntWalk.i64_in _ (by omega)
      have e4 : IntKind.i64.wrap ((a:Int) + 1 + (nr : Int) + (ns : Int) + (np : Int)) = (a : Int) + 1 + nr + ns + np := IntWalk.i64_in _ (by omega)
      clear hc0 hd1 hx1 hmem hns hnp hnr
      go_wp2_with (fail)
      go_quiet (fail)
      go_wp2_with (fail)
      clear e1 e2 e3
      go_loopg [3, 5] ns (fun g av iv wi => ∃ (j b : Nat), j ≤ ns ∧ g = ns - j ∧ b = a + 1 + nr + ns + np + szA (s.take j) ∧ av = .int .i64 (b : Int) ∧ iv = .int .i64 (j : Int) ∧ ∃ d, wi = w.drewN d)
      case atStart => exact ⟨0, a + 1 + nr + ns + np, by omega, rfl, rfl, by first | rfl | (go_num) | (simp only [e4]; rfl) | (congr 1), rfl, _, (by first | rfl | exact World.drewN_drewN _ _ _)⟩
      case round =>
        obtain ⟨j, b, hj, hg2, hbj, rfl, rfl, d2, rfl⟩ := hrel
        have HG2 := Lib.hid hg2
        have HB := Lib.hid hbj
        clear hg2 hbj e4
        by_cases hls : j < ns
        · obtain ⟨ad2, z, e2, _, _, hzj, hz⟩ := g2.el (i := j) (by have := NS.out; omega)
          subst e2
          have T2 : Hid (szA (s.take (j + 1)) = szA (s.take j) + z.v.s.size) := Lib.hid (sum_take1 (fun a : At => a.v.s.size) hzj)
          have T3 : Hid (szA (s.take (j + 1)) ≤ szA s) := Lib.hid (sum_take_le (fun a : At => a.v.s.size) s (j + 1))
          obtain ⟨z1, ⟨z2, z3, z4, z5⟩⟩ := z
          simp only at T2
          obtain ⟨s0, s1, s2, s3, s4⟩ := at_cells hz
          have hw3 : IntKind.i64.wrap ((j:Int) + 1) = (j : Int) + 1 := IntWalk.i64_in _ (by omega)
          have bnd : b + z5.size ≤ 4611686018427387904 := by
            have h1 := TB.out; have h2 := SO.out; have h3 := T2.out; have h4 := T3.out; have h5 := HB.out; omega
          have hw4 : IntKind.i64.wrap ((b:Int) + (z5.size : Int)) = (b : Int) + z5.size := IntWalk.i64_in _ (by omega)
          clear hz hzj
          go_wp2_with (fail)
          go_roundg (ns - (j + 1))
          case measure => have := HG2.out; omega
          case rel => exact ⟨j + 1, b + z5.size, by omega, rfl, by have := HB.out; have := T2.out; omega, by go_num, by go_num, _, rfl⟩
        · have hjn : j = ns := by omega
          have HB9 : Hid (b = a + 1 + nr + ns + np + szA s) := Lib.hid (by have := HB.out; rwa [hjn, List.take_of_length_le (by rw [NS.out]; omega)] at this)
          clear hjn
          go_wp2_with (fail)
          go_loopg [3, 6] np (fun g av iv wi => ∃ (j q : Nat), j ≤ np ∧ g = np - j ∧ q = b + szC (p.take j) ∧ av = .int .i64 (q : Int) ∧ iv = .int .i64 (j : Int) ∧ ∃ d, wi = w.drewN d)
          case atStart => exact ⟨0, b, by omega, rfl, rfl, rfl, rfl, _, rfl⟩
          case round =>
            obtain ⟨t, q, ht, hg2, hq, rfl, rfl, d2, rfl⟩ := hrel
            have HG3 := Lib.hid hg2
            have HQ := Lib.hid hq
            clear hg2 hq
            by_cases hls : t < np
            · obtain ⟨ad2, z, e2, _, _, hzj, hz⟩ := g3.el (i := t) (by have := NP.out; omega)
              subst e2
              have T2 : Hid (szC (p.take (t + 1)) = szC (p.take t) + z.v.s.size) := Lib.hid (sum_take1 (fun a : Ch => a.v.s.size) hzj)
              have T3 : Hid (szC (p.take (t + 1)) ≤ szC p) := Lib.hid (sum_take_le (fun a : Ch => a.v.s.size) p (t + 1))
              obtain ⟨z1, z6, ⟨z2, z3, z4, z5⟩⟩ := z
              simp only at T2
              obtain ⟨s0, s1, s2, s3, s4, s5⟩ := ch_cells hz
              have hw3 : IntKind.i64.wrap ((t:Int) + 1) = (t : Int) + 1 := IntWalk.i64_in _ (by omega)
              have bnd : q + z5.size ≤ 4611686018427387904 := by
                have h1 := TB.out; have h2 := SO.out; have h3 := T2.out; have h4 := T3.out; have h5 := HB9.out; have h6 := HQ.out; omega
              have hw4 : IntKind.i64.wrap ((q:Int) + (z5.size : Int)) = (q : Int) + z5.size := IntWalk.i64_in _ (by omega)
              clear hz hzj
              go_wp2_with (fail)
              go_roundg (np - (t + 1))
              case measure => have := HG3.out; omega
              case rel => exact ⟨t + 1, q + z5.size, by omega, rfl, by have := HQ.out; have := T2.out; omega, by go_num, by go_num, _, rfl⟩
            · have htn : t = np := by omega
              have HQ9 : Hid (q = szX (x.take (m + 1))) := Lib.hid (by
                have h1 := HQ.out
                rw [htn, List.take_of_length_le (by rw [NP.out]; omega)] at h1
                rw [TK.out, SO.out, h1, HB9.out]; omega)
              clear htn
              go_wp2_with (fail)
              go_roundg (n - (m + 1))
              case measure => have := HG.out; omega
              case rel => exact ⟨m + 1, q, by omega, rfl, HQ9.out, rfl, by go_num, _, rfl⟩
    · have HA9 : Hid (a = szX x) := Lib.hid (by have := HA.out; rwa [List.take_of_length_le (by have := N.out; omega)] at this)
      have e := HA9.out
      clear HA9 HA
      go_wp2_with (fail)
      go_ret
      subst e
      exact ⟨rfl, _, rfl⟩
end Go.Proofs.YtbdkbfoplpociaaGreatDoor
namespace Go.Proofs.YtbdkbfoplpociaaGreatDoor
set_option linter.unusedVariables false
set_option linter.unusedSimpArgs false

def tellO (m : Mk) (o : Opd) : Mk := if o.k = 1 then mkRetain m o.n o.p else if o.k = 2 then mkInsert m o.r o.s else mkDelete m o.n
def ofM (x : List Opd) : Mk := x.foldl tellO Mk.new
theorem ofM_snoc (x : List Opd) (o : Opd) : ofM (x ++ [o]) = tellO (ofM x) o := by unfold ofM; rw [List.foldl_append]; rfl
theorem MkB.tellO {m : Mk} {K S : Nat} (h : MkB m K S) {o : Opd} (hs : o.s.length ≤ S) (hp : o.p.length ≤ S) : MkB (tellO m o) (K + 2 * (1 + o.r.length)) S := by
  unfold Go.Proofs.YtbdkbfoplpociaaGreatDoor.tellO
  split
  · exact (h.retain o.n hp).mono (by omega) (Nat.le_refl _)
  · split
    · exact (h.insert o.r hs).mono (by omega) (Nat.le_refl _)
    · exact (h.delete o.n).mono (by omega) (Nat.le_refl _)
/-- ops and their runes, counted -/
def szN (x : List OpS) : Nat := (x.map (fun o => 1 + o.o.r.length)).sum
theorem szN_cons (o : OpS) (x : List OpS) : szN (o :: x) = 1 + o.o.r.length + szN x := rfl
theorem szN_len (x : List OpS) : x.length ≤ szN x := by
  induction x with
  | nil => exact Nat.zero_le _
  | cons a x ih => rw [szN_cons, List.length_cons]; omega
theorem szN_mem {x : List OpS} {o : OpS} (h : o ∈ x) : o.o.r.length ≤ szN x := by
  induction x with
  | nil => cases h
  | cons a x ih =>
    rw [szN_cons]
    rcases List.mem_cons.1 h with rfl | h
    · omega
    · have := ih h; omega
theorem szN_take (x : List OpS) (i : Nat) : szN (x.take i) ≤ szN x := sum_take_le (fun o : OpS => 1 + o.o.r.length) x i
theorem szN_le (x : List OpS) : szN x ≤ szX x := by
  induction x with
  | nil => exact Nat.zero_le _
  | cons a x ih =>
    have e : szX (a :: x) = szO a.o + szX x := rfl
    rw [szN_cons, e]
    unfold szO; omega
theorem ofM_B {S : Nat} : ∀ (x : List OpS) {m : Mk} {K : Nat}, MkB m K S → (∀ o ∈ x, o.o.s.length ≤ S ∧ o.o.p.length ≤ S) → MkB ((osOf x).foldl tellO m) (K + 2 * szN x) S
  | [], m, K, h, _ => h
  | o :: x, m, K, h, hs => by
    have h1 := h.tellO (hs o (by simp)).1 (hs o (by simp)).2
    have h2 := ofM_B x h1 (fun z hz => hs z (List.mem_cons_of_mem _ hz))
    rw [szN_cons]
    exact h2.mono (by omega) (Nat.le_refl _)
theorem ofM_bndN {S : Nat} (x : List OpS) (hs : ∀ o ∈ x, o.o.s.length ≤ S ∧ o.o.p.length ≤ S) : MkB (ofM (osOf x)) (2 * szN x) S := by
  have := ofM_B x (MkB.new S) hs
  rwa [Nat.zero_add] at this
theorem tellO_told {m : Mk} {us : List Un} (h : Told m us) {o : Opd} (ho : isOp o) (hb : (us.length : Int) + o.n ≤ 4611686018427387904) (hb2 : us.length ≤ 4611686018427387904) : Told (tellO m o) (us ++ unitsO o) := by
  unfold tellO unitsO
  rcases isOp_kind ho with hk | hk | hk
  · rw [if_neg (by rw [hk]; decide), if_pos hk, if_pos hk]; exact h.insert _ _
  · rw [if_neg (by rw [hk]; decide), if_neg (by rw [hk]; decide), if_neg (by rw [hk]; decide), if_neg (by rw [hk]; decide)]; exact h.delete _ hb hb2
  · rw [if_pos hk, if_neg (by rw [hk]; decide), if_pos hk]; exact h.retain _ _ hb
theorem units_length {us : List Un} : us.length ≤ takesU us + makesU us := by
  induction us with
  | nil => exact Nat.zero_le _
  | cons u us ih =>
    cases u with
    | ins r s => rw [takesU_i, makesU_i, List.length_cons]; omega
    | del => rw [takesU_d, makesU_d, List.length_cons]; omega
    | ret p => rw [takesU_r, makesU_r, List.length_cons]; omega
theorem ofM_told' : ∀ (x : List Opd) {m : Mk} {us : List Un}, Told m us → (∀ o ∈ x, isOp o) → us.length + (units x).length ≤ 4000000000 → Told (x.foldl tellO m) (us ++ units x)
  | [], m, us, h, _, _ => by rw [units_nil, List.append_nil]; exact h
  | o :: x, m, us, h, hi, hb => by
    rw [units_cons, List.length_append] at hb
    have ho := hi o (by simp)
    have hn : o.n ≤ (unitsO o).length := by
      unfold unitsO
      rcases isOp_kind ho with hk | hk | hk
      · obtain ⟨e, hr⟩ := opI_of ho hk
        rw [if_pos hk, e]
        show (0 : Int) ≤ _
        omega
      · rw [if_neg (by rw [hk]; decide), if_neg (by rw [hk]; decide), List.length_replicate]; omega
      · rw [if_neg (by rw [hk]; decide), if_pos hk, List.length_replicate]; omega
    have h1 := tellO_told h ho (by omega) (by omega)
    have h2 := ofM_told' x h1 (fun z hz => hi z (List.mem_cons_of_mem _ hz)) (by rw [List.length_append]; omega)
    rw [List.append_assoc] at h2
    rw [units_cons]
    exact h2
theorem ofM_told (x : List Opd) (hi : ∀ o ∈ x, isOp o) (hb : (units x).length ≤ 4000000000) : Told (ofM x) (units x) := by
  have := ofM_told' x Told.new hi (by simpa using hb)
  rwa [List.nil_append] at this
end Go.Proofs.YtbdkbfoplpociaaGreatDoor
namespace Go.Proofs.YtbdkbfoplpociaaGreatDoor
set_option linter.unusedVariables false
set_option linter.unusedSimpArgs false

/-- an op's part from a on, of length n -/
def cutO (o : Opd) (a n : Nat) : Opd := if o.k = 2 then { o with r := (o.r.drop a).take n } else { o with n := n }
def lenO (o : Opd) : Nat := (sizeO o).toNat
theorem lenO_of {o : Opd} (h : isOp o) : 1 ≤ lenO o ∧ (lenO o : Int) = sizeO o := by
  unfold lenO
  rcases isOp_kind h with hk | hk | hk
  · obtain ⟨e, hr⟩ := opI_of h hk
    have h1 : sizeO o = o.r.length := by unfold sizeO; rw [if_pos hk]
    have := List.length_pos_iff.2 hr
    omega
  · obtain ⟨e, hn⟩ := opD_of h hk
    have h1 : sizeO o = o.n := by unfold sizeO; rw [if_neg (by rw [hk]; decide)]
    omega
  · obtain ⟨e, hn⟩ := opR_of h hk
    have h1 : sizeO o = o.n := by unfold sizeO; rw [if_neg (by rw [hk]; decide)]
    omega
/-- what take answers, and what is left -/
def tookV (X : List OpS) (a n : Nat) (o : Opd) (X' : List OpS) (a' : Nat) : Prop :=
  match X with
  | [] => o = opR n [] ∧ X' = [] ∧ a' = 0
  | x :: t => o = cutO x.o a (min n (lenO x.o - a)) ∧ ((a + min n (lenO x.o - a) = lenO x.o ∧ X' = t ∧ a' = 0) ∨ (a + min n (lenO x.o - a) < lenO x.o ∧ X' = x :: t ∧ a' = a + min n (lenO x.o - a)))
/-- the kind of what comes first -/
def kindR (X : List OpS) : Int := match X with
  | [] => 1
  | o :: _ => o.o.k
def longR (X : List OpS) (a : Nat) : Nat := match X with
  | [] => 536870912
  | o :: _ => lenO o.o - a
/-- the units that are left -/
def restU (X : List OpS) (a : Nat) : List Un := (units (osOf X)).drop a
theorem lenO_units {o : Opd} (h : isOp o) : (unitsO o).length = lenO o := by
  obtain ⟨_, h1⟩ := lenO_of h
  rcases isOp_kind h with hk | hk | hk
  · have h2 : (unitsO o).length = o.r.length := by unfold unitsO; rw [if_pos hk, List.length_map]
    have h3 : sizeO o = o.r.length := by unfold sizeO; rw [if_pos hk]
    omega
  · have h2 : (unitsO o).length = o.n.toNat := by unfold unitsO; rw [if_neg (by rw [hk]; decide), if_neg (by rw [hk]; decide), List.length_replicate]
    have h3 : sizeO o = o.n := by unfold sizeO; rw [if_neg (by rw [hk]; decide)]
    omega
  · have h2 : (unitsO o).length = o.n.toNat := by unfold unitsO; rw [if_neg (by rw [hk]; decide), if_pos hk, List.length_replicate]
    have h3 : sizeO o = o.n := by unfold sizeO; rw [if_neg (by rw [hk]; decide)]
    omega
/-- an op's part, its units -/
theorem cut_units {o : Opd} (h : isOp o) {a q : Nat} (hq : 1 ≤ q) (hl : a + q ≤ lenO o) : isOp (cutO o a q) ∧ unitsO (cutO o a q) = ((unitsO o).drop a).take q ∧ (cutO o a q).k = o.k ∧ (cutO o a q).s = o.s ∧ (cutO o a q).p = o.p := by
  have hu := lenO_units h
  rcases isOp_kind h with hk | hk | hk
  · obtain ⟨e, hr⟩ := opI_of h hk
    have h1 : unitsO o = o.r.map (fun r => Un.ins r o.s) := by unfold unitsO; rw [if_pos hk]
    have h2 : cutO o a q = opI ((o.r.drop a).take q) o.s := by
      unfold cutO; rw [if_pos hk]
      conv => lhs; rw [e]
      rfl
    rw [h1, List.length_map] at hu
    rw [h2, unitsO_I, h1, ← List.map_drop, ← List.map_take]
    refine ⟨isOp_opI (fun h0 => ?_), rfl, hk.symm, rfl, by rw [e]; rfl⟩
    have := congrArg List.length h0
    rw [List.length_take, List.length_drop] at this
    simp at this
    omega
  · obtain ⟨e, hn⟩ := opD_of h hk
    have h1 : unitsO o = List.replicate o.n.toNat .del := by unfold unitsO; rw [if_neg (by rw [hk]; decide), if_neg (by rw [hk]; decide)]
    have h2 : cutO o a q = opD (q : Int) := by unfold cutO; rw [if_neg (by rw [hk]; decide)]; rw [e]; rfl
    rw [h1, List.length_replicate] at hu
    rw [h2, unitsO_D, h1, List.drop_replicate, List.take_replicate, Nat.min_eq_left (by omega)]
    exact ⟨isOp_opD (by omega), rfl, hk.symm, by rw [e]; rfl, by rw [e]; rfl⟩
  · obtain ⟨e, hn⟩ := opR_of h hk
    have h1 : unitsO o = List.replicate o.n.toNat (.ret o.p) := by unfold unitsO; rw [if_neg (by rw [hk]; decide), if_pos hk]
    have h2 : cutO o a q = opR (q : Int) o.p := by
      unfold cutO; rw [if_neg (by rw [hk]; decide)]
      conv => lhs; rw [e]
      rfl
    rw [h1, List.length_replicate] at hu
    rw [h2, unitsO_R, h1, List.drop_replicate, List.take_replicate, Nat.min_eq_left (by omega)]
    exact ⟨isOp_opR (by omega), rfl, hk.symm, by rw [e]; rfl, rfl⟩
/-- what was taken, and what is left -/
theorem took_units {x : OpS} {t X' : List OpS} {a n a' : Nat} {o : Opd} (hx : isOp x.o) (ha : a < lenO x.o) (hn : 1 ≤ n) (h : tookV (x :: t) a n o X' a') :
    restU (x :: t) a = unitsO o ++ restU X' a' ∧ isOp o ∧ (unitsO o).length = min n (lenO x.o - a) ∧ o.k = x.o.k ∧ o.s = x.o.s ∧ o.p = x.o.p := by
  obtain ⟨h1, h2⟩ := h
  obtain ⟨g1, g2, g3, g4, g5⟩ := cut_units hx (a := a) (q := min n (lenO x.o - a)) (by omega) (by omega)
  rw [← h1] at g1 g2 g3 g4 g5
  have hl := lenO_units hx
  have e : units (osOf (x :: t)) = unitsO x.o ++ units (osOf t) := rfl
  have hlen : (unitsO o).length = min n (lenO x.o - a) := by rw [g2, List.length_take, List.length_drop, hl]; omega
  refine ⟨?_, g1, hlen, g3, g4, g5⟩
  unfold restU
  rw [e, List.drop_append_of_le_length (by omega), g2]
  rcases h2 with ⟨h3, rfl, rfl⟩ | ⟨h3, rfl, rfl⟩
  · rw [List.take_of_length_le (by rw [List.length_drop]; omega), List.drop_zero]
  · rw [e, List.drop_append_of_le_length (by omega), ← List.append_assoc, ← List.drop_drop, List.take_append_drop]
/-- ins units counted -/
def insN : List Un → Nat
  | [] => 0
  | .ins _ _ :: us => insN us + 1
  | _ :: us => insN us
theorem insN_append (a b : List Un) : insN (a ++ b) = insN a + insN b := by
  induction a with
  | nil => simp [insN]
  | cons u a ih => cases u <;> simp [insN, ih] <;> omega
theorem insN_ins (r : List Int) (s : List At) : insN (r.map (fun r => Un.ins r s)) = r.length := by
  induction r with
  | nil => rfl
  | cons a r ih => show insN _ + 1 = _; rw [ih]; rfl
theorem insN_x (x : List OpS) (h : ∀ o ∈ x, isOp o.o) : x.length + insN (units (osOf x)) ≤ szN x := by
  induction x with
  | nil => exact Nat.le_refl _
  | cons a x ih =>
    have h1 := ih (fun o ho => h o (List.mem_cons_of_mem _ ho))
    have e : units (osOf (a :: x)) = unitsO a.o ++ units (osOf x) := rfl
    rw [e, insN_append, szN_cons, List.length_cons]
    have : insN (unitsO a.o) ≤ a.o.r.length := by
      rcases isOp_kind (h a (by simp)) with hk | hk | hk
      · unfold unitsO; rw [if_pos hk, insN_ins]; exact Nat.le_refl _
      · have : ∀ k, insN (List.replicate k .del) = 0 := fun k => by
          induction k with
          | zero => rfl
          | succ k ih => rw [List.replicate_succ]; exact ih
        unfold unitsO; rw [if_neg (by rw [hk]; decide), if_neg (by rw [hk]; decide), this]; exact Nat.zero_le _
      · have : ∀ k p, insN (List.replicate k (.ret p)) = 0 := fun k p => by
          induction k with
          | zero => rfl
          | succ k ih => rw [List.replicate_succ]; exact ih
        unfold unitsO; rw [if_neg (by rw [hk]; decide), if_pos hk, this]; exact Nat.zero_le _
    omega
/-- the rounds' steps -/
theorem comp_ins (l : List Ky) (A B : List Un) (s : List At) : ∀ r : List Int, compU l A (r.map (fun r => Un.ins r s) ++ B) = r.map (fun r => Un.ins r s) ++ compU l A B
  | [] => rfl
  | a :: r => by
    show compU l A (.ins a s :: (r.map (fun r => Un.ins r s) ++ B)) = _
    rw [compU_ins, comp_ins l A B s r]; rfl
theorem comp_del (l : List Ky) (A B : List Un) (v : Un) (hv : v = .del ∨ ∃ q, v = .ret q) : ∀ k, compU l (List.replicate k .del ++ A) (v :: B) = List.replicate k .del ++ compU l A (v :: B)
  | 0 => rfl
  | k + 1 => by
    rw [List.replicate_succ]
    show compU l (.del :: (List.replicate k .del ++ A)) (v :: B) = _
    rcases hv with rfl | ⟨q, rfl⟩
    · rw [compU_dd, comp_del l A B _ (.inl rfl) k]; rfl
    · rw [compU_dr, comp_del l A B _ (.inr ⟨q, rfl⟩) k]; rfl
theorem comp_retret (l : List Ky) (A B : List Un) (p q : List Ch) : ∀ k, compU l (List.replicate k (.ret p) ++ A) (List.replicate k (.ret q) ++ B) = List.replicate k (.ret (composeP p q)) ++ compU l A B
  | 0 => rfl
  | k + 1 => by
    rw [List.replicate_succ, List.replicate_succ, List.replicate_succ]
    show compU l (.ret p :: (List.replicate k (.ret p) ++ A)) (.ret q :: (List.replicate k (.ret q) ++ B)) = _
    rw [compU_rr, comp_retret l A B p q k]; rfl
theorem comp_retdel (l : List Ky) (A B : List Un) (p : List Ch) : ∀ k, compU l (List.replicate k (.ret p) ++ A) (List.replicate k .del ++ B) = List.replicate k .del ++ compU l A B
  | 0 => rfl
  | k + 1 => by
    rw [List.replicate_succ, List.replicate_succ]
    show compU l (.ret p :: (List.replicate k (.ret p) ++ A)) (.del :: (List.replicate k .del ++ B)) = _
    rw [compU_rd, comp_retdel l A B p k]; rfl
theorem comp_insret (l : List Ky) (A B : List Un) (s : List At) (q : List Ch) : ∀ r : List Int, compU l (r.map (fun r => Un.ins r s) ++ A) (List.replicate r.length (.ret q) ++ B) = r.map (fun x => Un.ins x (actC l ⟨x, s⟩ q).s) ++ compU l A B
  | [] => rfl
  | a :: r => by
    rw [List.length_cons, List.replicate_succ]
    show compU l (.ins a s :: (r.map (fun r => Un.ins r s) ++ A)) (.ret q :: (List.replicate r.length (.ret q) ++ B)) = _
    rw [compU_ir, comp_insret l A B s q r]; rfl
theorem comp_nilret (l : List Ky) (B : List Un) (q : List Ch) : ∀ k, compU l [] (List.replicate k (.ret q) ++ B) = List.replicate k (.ret (composeP [] q)) ++ compU l [] B
  | 0 => rfl
  | k + 1 => by
    rw [List.replicate_succ, List.replicate_succ]
    show compU l [] (.ret q :: (List.replicate k (.ret q) ++ B)) = _
    rw [compU_nr, comp_nilret l B q k]; rfl
theorem comp_nildel (l : List Ky) (B : List Un) : ∀ k, compU l [] (List.replicate k .del ++ B) = List.replicate k .del ++ compU l [] B
  | 0 => rfl
  | k + 1 => by
    rw [List.replicate_succ]
    show compU l [] (.del :: (List.replicate k .del ++ B)) = _
    rw [compU_nd, comp_nildel l B k]; rfl
end Go.Proofs.YtbdkbfoplpociaaGreatDoor
namespace Go.Proofs.YtbdkbfoplpociaaGreatDoor
set_option linter.unusedVariables false
set_option linter.unusedSimpArgs false

/-- runes with a set, told one by one with a patch on them -/
def insM (l : List Ky) (s : List At) (p : List Ch) (m : Mk) (r : List Int) : Mk := r.foldl (fun m x => mkInsert m [x] (actC l ⟨x, s⟩ p).s) m
theorem insM_told {l : List Ky} {s : List At} {p : List Ch} : ∀ (r : List Int) {m : Mk} {us : List Un}, Told m us → Told (insM l s p m r) (us ++ r.map (fun x => Un.ins x (actC l ⟨x, s⟩ p).s))
  | [], m, us, h => by simpa [insM] using h
  | x :: r, m, us, h => by
    have h1 := h.insert [x] (actC l ⟨x, s⟩ p).s
    have h2 := insM_told (l := l) (s := s) (p := p) r h1
    have e : us ++ List.map (fun r => Un.ins r (actC l ⟨x, s⟩ p).s) [x] ++ r.map (fun x => Un.ins x (actC l ⟨x, s⟩ p).s) = us ++ (x :: r).map (fun x => Un.ins x (actC l ⟨x, s⟩ p).s) := by simp
    rw [e] at h2
    exact h2
theorem insM_B {l : List Ky} {s : List At} {p : List Ch} {S : Nat} : ∀ (r : List Int) {m : Mk} {K : Nat}, MkB m K S → (∀ x ∈ r, (actC l ⟨x, s⟩ p).s.length ≤ S) → MkB (insM l s p m r) (K + r.length) S
  | [], m, K, h, _ => h
  | x :: r, m, K, h, hs => by
    have h1 := h.insert [x] (hs x (by simp))
    have h2 := insM_B (l := l) (s := s) (p := p) r h1 (fun y hy => hs y (List.mem_cons_of_mem _ hy))
    exact h2.mono (by simp; omega) (Nat.le_refl _)
/-- what both does -/
def bothM (l : List Ky) (m : Mk) (u o : Opd) : Mk :=
  if u.k = 1 then (if o.k = 1 then mkRetain m o.n (composeP u.p o.p) else mkDelete m o.n) else if o.k = 1 then insM l u.s o.p m u.r else m

end Go.Proofs.YtbdkbfoplpociaaGreatDoor
