/- Merged texts: OpGreat, OpSize, NormLaw. -/
import Derived.Test.YtnppoifgfehpfaaGreatDoorPk13
import Derived.Test.YtnppoifgfehpfaaGreatDoorPk25
/- The walks of rubricref15.Size and rubriclaw15.great: they answer something and change nothing. -/
namespace Go.Proofs.YtnppoifgfehpfaaGreatDoor
open Go.RowKit
set_option linter.unusedVariables false
set_option linter.unusedSimpArgs false

set_option maxRecDepth 100000 in
set_option maxHeartbeats 1600000 in
theorem sizeX_any (A : Option Addr) (n c : Nat) (x : List OpS) (w : World) (hn : n = x.length) (h : RdOp w w.heap.size A x) (hb : n ≤ 140737488355328) (ho : ∀ o ∈ x, okOp o.o) :
    Calls Tryz.prog 51 #[.slice A n c] w fun e w' => ∃ v : Int, e = .returned (.int .i64 v) ∧ ∃ d, w' = w.drewN d := by
  have N := Lib.hid hn
  clear hn
  go_enter Tryz.func51, Tryz.ntmps51
  go_wp2_with (fail)
  go_loopg [3, 4] n (fun g av iv wr => ∃ (m : Nat) (a : Int), m ≤ n ∧ g = n - m ∧ av = .int .i64 a ∧ iv = .int .i64 (m : Int) ∧ ∃ d, wr = w.drewN d)
  case atStart => exact ⟨0, 0, by omega, rfl, rfl, rfl, 0, rfl⟩
  case round =>
    obtain ⟨m, a, hm, hg, rfl, rfl, d, rfl⟩ := hrel
    have HG := Lib.hid hg
    clear hg
    by_cases hlt : m < n
    · have hl1 : m < x.length := by have := N.out; omega
      obtain ⟨ad, o, had0, had, hd1, hx1, hc0⟩ := h.1.el hl1
      subst had0
      have hmem := List.mem_of_getElem? hx1
      obtain ⟨q1, q2, q3, q4, q5⟩ := ho o hmem
      obtain ⟨g1, g2, g3⟩ := h.2 o hmem
      obtain ⟨⟨k, nn, r, s, p⟩, Ar, cr, As, cs, Ap, cp⟩ := o
      simp only at g1 g2 g3 q3 q4 q5
      obtain ⟨r0, r1, r2, r3, r4⟩ := op_cells hc0
      obtain ⟨ns, hns⟩ : ∃ X, s.length = X := ⟨_, rfl⟩
      obtain ⟨np, hnp⟩ : ∃ X, p.length = X := ⟨_, rfl⟩
      have NS := Lib.hid hns
      have NP := Lib.hid hnp
      rw [hns] at r3 q4
      rw [hnp] at r4 q5
      have hw2 : IntKind.i64.wrap ((m:Int) + 1) = (m : Int) + 1 := IntWalk.i64_in _ (by omega)
      clear hc0 hd1 hx1 hmem hns hnp
      go_wp2_with (fail)
      go_quiet (fail)
      go_wp2_with (fail)
      go_loopg [3, 5] ns (fun g av iv wi => ∃ (j : Nat) (b : Int), j ≤ ns ∧ g = ns - j ∧ av = .int .i64 b ∧ iv = .int .i64 (j : Int) ∧ ∃ d, wi = w.drewN d)
      case atStart => exact ⟨0, _, by omega, rfl, rfl, rfl, _, (by first | rfl | exact World.drewN_drewN _ _ _)⟩
      case round =>
        obtain ⟨j, b, hj, hg2, rfl, rfl, d2, rfl⟩ := hrel
        have HG2 := Lib.hid hg2
        clear hg2
        by_cases hls : j < ns
        · obtain ⟨ad2, z, e2, _, _, _, hz⟩ := g2.el (i := j) (by have := NS.out; omega)
          subst e2
          obtain ⟨z1, z2, z3, z4, z5⟩ := z
          obtain ⟨s0, s1, s2, s3, s4⟩ := at_cells hz
          have hw3 : IntKind.i64.wrap ((j:Int) + 1) = (j : Int) + 1 := IntWalk.i64_in _ (by omega)
          clear hz
          go_wp2_with (fail)
          go_roundg (ns - (j + 1))
          case measure => have := HG2.out; omega
          case rel => exact ⟨j + 1, _, by omega, rfl, rfl, by go_num, _, rfl⟩
        · go_wp2_with (fail)
          go_loopg [3, 6] np (fun g av iv wi => ∃ (j : Nat) (b : Int), j ≤ np ∧ g = np - j ∧ av = .int .i64 b ∧ iv = .int .i64 (j : Int) ∧ ∃ d, wi = w.drewN d)
          case atStart => exact ⟨0, _, by omega, rfl, rfl, rfl, _, rfl⟩
          case round =>
            obtain ⟨t, b, ht, hg2, rfl, rfl, d2, rfl⟩ := hrel
            have HG3 := Lib.hid hg2
            clear hg2
            by_cases hls : t < np
            · obtain ⟨ad2, z, e2, _, _, _, hz⟩ := g3.el (i := t) (by have := NP.out; omega)
              subst e2
              obtain ⟨z1, z6, z2, z3, z4, z5⟩ := z
              obtain ⟨s0, s1, s2, s3, s4, s5⟩ := ch_cells hz
              have hw3 : IntKind.i64.wrap ((t:Int) + 1) = (t : Int) + 1 := IntWalk.i64_in _ (by omega)
              clear hz
              go_wp2_with (fail)
              go_roundg (np - (t + 1))
              case measure => have := HG3.out; omega
              case rel => exact ⟨t + 1, _, by omega, rfl, rfl, by go_num, _, rfl⟩
            · go_wp2_with (fail)
              go_roundg (n - (m + 1))
              case measure => have := HG.out; omega
              case rel => exact ⟨m + 1, _, by omega, rfl, rfl, by go_num, _, rfl⟩
    · go_wp2_with (fail)
      go_ret
      exact ⟨_, rfl, _, rfl⟩

structure SX where
  A : Option Addr
  c : Nat
  l : List OpS
def SX.enc (s : SX) : List Value := [.slice s.A s.l.length s.c]
end Go.Proofs.YtnppoifgfehpfaaGreatDoor
/- The walk of rubricref15.Size: it answers how much a delta has. -/
namespace Go.Proofs.YtnppoifgfehpfaaGreatDoor
open Go.RowKit
set_option linter.unusedVariables false
set_option linter.unusedSimpArgs false

def szA (s : List At) : Nat := (s.map (fun a => a.v.s.size)).sum
def szC (p : List Ch) : Nat := (p.map (fun a => a.v.s.size)).sum
def szO (o : Opd) : Nat := 1 + o.r.length + o.s.length + o.p.length + szA o.s + szC o.p
def szX (x : List OpS) : Nat := (x.map (fun o => szO o.o)).sum
theorem sum_take1 {α : Type} (f : α → Nat) {l : List α} {i : Nat} {a : α} (h : l[i]? = some a) : ((l.take (i + 1)).map f).sum = ((l.take i).map f).sum + f a := by
  rw [List.take_add_one, h]; simp
theorem sum_take_le {α : Type} (f : α → Nat) (l : List α) (i : Nat) : ((l.take i).map f).sum ≤ (l.map f).sum := by
  conv => rhs; rw [← List.take_append_drop i l]
  rw [List.map_append, List.sum_append]; omega
theorem szX_mem {x : List OpS} {o : OpS} (h : o ∈ x) : szO o.o ≤ szX x := by
  induction x with
  | nil => cases h
  | cons a x ih =>
    show _ ≤ szO a.o + szX x
    rcases List.mem_cons.1 h with rfl | h
    · omega
    · have := ih h; omega

set_option maxRecDepth 100000 in
set_option maxHeartbeats 1600000 in
theorem sizeX2_any (A : Option Addr) (n c : Nat) (x : List OpS) (w : World) (hn : n = x.length) (h : RdOp w w.heap.size A x) (hb : n ≤ 140737488355328) (hz : szX x ≤ 4611686018427387904) :
    Calls Tryz.prog 51 #[.slice A n c] w fun e w' => e = .returned (.int .i64 (szX x : Int)) ∧ ∃ d, w' = w.drewN d := by
  have N := Lib.hid hn
  have Z := Lib.hid hz
  clear hn hz
  go_enter Tryz.func51, Tryz.ntmps51
  go_wp2_with (fail)
  go_loopg [3, 4] n (fun g av iv wr => ∃ (m a : Nat), m ≤ n ∧ g = n - m ∧ a = szX (x.take m) ∧ av = .int .i64 (a : Int) ∧ iv = .int .i64 (m : Int) ∧ ∃ d, wr = w.drewN d)
  case atStart => exact ⟨0, 0, by omega, rfl, rfl, rfl, rfl, 0, rfl⟩
  case round =>
    obtain ⟨m, a, hm, hg, ha, rfl, rfl, d, rfl⟩ := hrel
    have HG := Lib.hid hg
    have HA := Lib.hid ha
    clear hg ha
    by_cases hlt : m < n
    · have hl1 : m < x.length := by have := N.out; omega
      obtain ⟨ad, o, had0, had, hd1, hx1, hc0⟩ := h.1.el hl1
      subst had0
      have hmem := List.mem_of_getElem? hx1
      obtain ⟨g1, g2, g3⟩ := h.2 o hmem
      have TK : Hid (szX (x.take (m + 1)) = a + szO o.o) := Lib.hid (by rw [HA.out]; exact sum_take1 (fun o : OpS => szO o.o) hx1)
      have TB : Hid (a + szO o.o ≤ 4611686018427387904) := Lib.hid (by rw [← TK.out]; exact Nat.le_trans (sum_take_le (fun o : OpS => szO o.o) x (m + 1)) Z.out)
      obtain ⟨⟨k, nn, r, s, p⟩, Ar, cr, As, cs, Ap, cp⟩ := o
      simp only at g1 g2 g3 TK TB
      obtain ⟨r0, r1, r2, r3, r4⟩ := op_cells hc0
      obtain ⟨nr, hnr⟩ : ∃ X, r.length = X := ⟨_, rfl⟩
      obtain ⟨ns, hns⟩ : ∃ X, s.length = X := ⟨_, rfl⟩
      obtain ⟨np, hnp⟩ : ∃ X, p.length = X := ⟨_, rfl⟩
      have SO : Hid (szO ⟨k, nn, r, s, p⟩ = 1 + nr + ns + np + szA s + szC p) := Lib.hid (by rw [← hnr, ← hns, ← hnp]; rfl)
      have NS := Lib.hid hns
      have NP := Lib.hid hnp
      have B0 : a + 1 + nr + ns + np ≤ 4611686018427387904 := by have := TB.out; rw [SO.out] at this; omega
      rw [hnr] at r2
      rw [hns] at r3
      rw [hnp] at r4
      have hw2 : IntKind.i64.wrap ((m:Int) + 1) = (m : Int) + 1 := IntWalk.i64_in _ (by omega)
      have e1 : IntKind.i64.wrap ((a:Int) + 1) = (a : Int) + 1 := IntWalk.i64_in _ (by omega)
      have e2 : IntKind.i64.wrap ((a:Int) + 1 + (nr : Int)) = (a : Int) + 1 + nr := IntWalk.i64_in _ (by omega)
      have e3 : IntKind.i64.wrap ((a:Int) + 1 + (nr : Int) + (ns : Int)) = (a : Int) + 1 + nr + ns := IntWalk.i64_in _ (by omega)
      have e4 : IntKind.i64.wrap ((a:Int) + 1 + (nr : Int) + (ns : Int) + (np : Int)) = (a : Int) + 1 + nr + ns + np := IntWalk.i64_in _ (by omega)
      clear hc0 hd1 hx1 hmem hns hnp hnr
      go_wp2_with (fail)
      go_quiet (fail)
      go_wp2_with (fail)
      clear e1 e2 e3
      go_loopg [3, 5] ns (fun g av iv wi => ∃ (j b : Nat), j ≤ ns ∧ g = ns - j ∧ b = a + 1 + nr + ns + np + szA (s.take j) ∧ av = .int .i64 (b : Int) ∧ iv = .int .i64 (j : Int) ∧ ∃ d, wi = w.drewN d)
      case atStart => exact ⟨0, a + 1 + nr + ns + np, by omega, rfl, rfl, by first | rfl | (go_num) | (simp only [e4]; rfl) | (congr 1), rfl, _, (by first | rfl | exact World.drewN_drewN _ _ _)⟩
      case round =>
        obtain ⟨j, b, hj, hg2, hbj, rfl, rfl, d2, rfl⟩ := hrel
        have HG2 := Lib.hid hg2
        have HB := Lib.hid hbj
        clear hg2 hbj e4
        by_cases hls : j < ns
        · obtain ⟨ad2, z, e2, _, _, hzj, hz⟩ := g2.el (i := j) (by have := NS.out; omega)
          subst e2
          have T2 : Hid (szA (s.take (j + 1)) = szA (s.take j) + z.v.s.size) := Lib.hid (sum_take1 (fun a : At => a.v.s.size) hzj)
          have T3 : Hid (szA (s.take (j + 1)) ≤ szA s) := Lib.hid (sum_take_le (fun a : At => a.v.s.size) s (j + 1))
          obtain ⟨z1, ⟨z2, z3, z4, z5⟩⟩ := z
          simp only at T2
          obtain ⟨s0, s1, s2, s3, s4⟩ := at_cells hz
          have hw3 : IntKind.i64.wrap ((j:Int) + 1) = (j : Int) + 1 := IntWalk.i64_in _ (by omega)
          have bnd : b + z5.size ≤ 4611686018427387904 := by
            have h1 := TB.out; have h2 := SO.out; have h3 := T2.out; have h4 := T3.out; have h5 := HB.out; omega
          have hw4 : IntKind.i64.wrap ((b:Int) + (z5.size : Int)) = (b : Int) + z5.size := IntWalk.i64_in _ (by omega)
          clear hz hzj
          go_wp2_with (fail)
          go_roundg (ns - (j + 1))
          case measure => have := HG2.out; omega
          case rel => exact ⟨j + 1, b + z5.size, by omega, rfl, by have := HB.out; have := T2.out; omega, by go_num, by go_num, _, rfl⟩
        · have hjn : j = ns := by omega
          have HB9 : Hid (b = a + 1 + nr + ns + np + szA s) := Lib.hid (by have := HB.out; rwa [hjn, List.take_of_length_le (by rw [NS.out]; omega)] at this)
          clear hjn
          go_wp2_with (fail)
          go_loopg [3, 6] np (fun g av iv wi => ∃ (j q : Nat), j ≤ np ∧ g = np - j ∧ q = b + szC (p.take j) ∧ av = .int .i64 (q : Int) ∧ iv = .int .i64 (j : Int) ∧ ∃ d, wi = w.drewN d)
          case atStart => exact ⟨0, b, by omega, rfl, rfl, rfl, rfl, _, rfl⟩
          case round =>
            obtain ⟨t, q, ht, hg2, hq, rfl, rfl, d2, rfl⟩ := hrel
            have HG3 := Lib.hid hg2
            have HQ := Lib.hid hq
            clear hg2 hq
            by_cases hls : t < np
            · obtain ⟨ad2, z, e2, _, _, hzj, hz⟩ := g3.el (i := t) (by have := NP.out; omega)
              subst e2
              have T2 : Hid (szC (p.take (t + 1)) = szC (p.take t) + z.v.s.size) := Lib.hid (sum_take1 (fun a : Ch => a.v.s.size) hzj)
              have T3 : Hid (szC (p.take (t + 1)) ≤ szC p) := Lib.hid (sum_take_le (fun a : Ch => a.v.s.size) p (t + 1))
              obtain ⟨z1, z6, ⟨z2, z3, z4, z5⟩⟩ := z
              simp only at T2
              obtain ⟨s0, s1, s2, s3, s4, s5⟩ := ch_cells hz
              have hw3 : IntKind.i64.wrap ((t:Int) + 1) = (t : Int) + 1 := IntWalk.i64_in _ (by omega)
              have bnd : q + z5.size ≤ 4611686018427387904 := by
                have h1 := TB.out; have h2 := SO.out; have h3 := T2.out; have h4 := T3.out; have h5 := HB9.out; have h6 := HQ.out; omega
              have hw4 : IntKind.i64.wrap ((q:Int) + (z5.size : Int)) = (q : Int) + z5.size := IntWalk.i64_in _ (by omega)
              clear hz hzj
              go_wp2_with (fail)
              go_roundg (np - (t + 1))
              case measure => have := HG3.out; omega
              case rel => exact ⟨t + 1, q + z5.size, by omega, rfl, by have := HQ.out; have := T2.out; omega, by go_num, by go_num, _, rfl⟩
            · have htn : t = np := by omega
              have HQ9 : Hid (q = szX (x.take (m + 1))) := Lib.hid (by
                have h1 := HQ.out
                rw [htn, List.take_of_length_le (by rw [NP.out]; omega)] at h1
                rw [TK.out, SO.out, h1, HB9.out]; omega)
              clear htn
              go_wp2_with (fail)
              go_roundg (n - (m + 1))
              case measure => have := HG.out; omega
              case rel => exact ⟨m + 1, q, by omega, rfl, HQ9.out, rfl, by go_num, _, rfl⟩
    · have HA9 : Hid (a = szX x) := Lib.hid (by have := HA.out; rwa [List.take_of_length_le (by have := N.out; omega)] at this)
      have e := HA9.out
      clear HA9 HA
      go_wp2_with (fail)
      go_ret
      subst e
      exact ⟨rfl, _, rfl⟩
end Go.Proofs.YtnppoifgfehpfaaGreatDoor
/- A delta's normal form as a plain function. Plain mathematics. -/
namespace Go.Proofs.YtnppoifgfehpfaaGreatDoor
set_option linter.unusedVariables false
set_option linter.unusedSimpArgs false

def tellO (m : Mk) (o : Opd) : Mk := if o.k = 1 then mkRetain m o.n o.p else if o.k = 2 then mkInsert m o.r o.s else mkDelete m o.n
def ofM (x : List Opd) : Mk := x.foldl tellO Mk.new
theorem ofM_snoc (x : List Opd) (o : Opd) : ofM (x ++ [o]) = tellO (ofM x) o := by unfold ofM; rw [List.foldl_append]; rfl
theorem MkB.tellO {m : Mk} {K S : Nat} (h : MkB m K S) {o : Opd} (hs : o.s.length ≤ S) (hp : o.p.length ≤ S) : MkB (tellO m o) (K + 2 * (1 + o.r.length)) S := by
  unfold Go.Proofs.YtnppoifgfehpfaaGreatDoor.tellO
  split
  · exact (h.retain o.n hp).mono (by omega) (Nat.le_refl _)
  · split
    · exact (h.insert o.r hs).mono (by omega) (Nat.le_refl _)
    · exact (h.delete o.n).mono (by omega) (Nat.le_refl _)
/-- ops and their runes, counted -/
def szN (x : List OpS) : Nat := (x.map (fun o => 1 + o.o.r.length)).sum
theorem szN_cons (o : OpS) (x : List OpS) : szN (o :: x) = 1 + o.o.r.length + szN x := rfl
theorem szN_len (x : List OpS) : x.length ≤ szN x := by
  induction x with
  | nil => exact Nat.zero_le _
  | cons a x ih => rw [szN_cons, List.length_cons]; omega
theorem szN_mem {x : List OpS} {o : OpS} (h : o ∈ x) : o.o.r.length ≤ szN x := by
  induction x with
  | nil => cases h
  | cons a x ih =>
    rw [szN_cons]
    rcases List.mem_cons.1 h with rfl | h
    · omega
    · have := ih h; omega
theorem szN_take (x : List OpS) (i : Nat) : szN (x.take i) ≤ szN x := sum_take_le (fun o : OpS => 1 + o.o.r.length) x i
theorem szN_le (x : List OpS) : szN x ≤ szX x := by
  induction x with
  | nil => exact Nat.zero_le _
  | cons a x ih =>
    have e : szX (a :: x) = szO a.o + szX x := rfl
    rw [szN_cons, e]
    unfold szO; omega
theorem ofM_B {S : Nat} : ∀ (x : List OpS) {m : Mk} {K : Nat}, MkB m K S → (∀ o ∈ x, o.o.s.length ≤ S ∧ o.o.p.length ≤ S) → MkB ((osOf x).foldl tellO m) (K + 2 * szN x) S
  | [], m, K, h, _ => h
  | o :: x, m, K, h, hs => by
    have h1 := h.tellO (hs o (by simp)).1 (hs o (by simp)).2
    have h2 := ofM_B x h1 (fun z hz => hs z (List.mem_cons_of_mem _ hz))
    rw [szN_cons]
    exact h2.mono (by omega) (Nat.le_refl _)
theorem ofM_bndN {S : Nat} (x : List OpS) (hs : ∀ o ∈ x, o.o.s.length ≤ S ∧ o.o.p.length ≤ S) : MkB (ofM (osOf x)) (2 * szN x) S := by
  have := ofM_B x (MkB.new S) hs
  rwa [Nat.zero_add] at this
theorem ofM_bnd {S : Nat} (x : List OpS) (hs : ∀ o ∈ x, o.o.s.length ≤ S ∧ o.o.p.length ≤ S) : MkB (ofM (osOf x)) (2 * szX x) S :=
  (ofM_bndN x hs).mono (by have := szN_le x; omega) (Nat.le_refl _)
theorem tellO_told {m : Mk} {us : List Un} (h : Told m us) {o : Opd} (ho : isOp o) (hb : (us.length : Int) + o.n ≤ 4611686018427387904) (hb2 : us.length ≤ 4611686018427387904) : Told (tellO m o) (us ++ unitsO o) := by
  unfold tellO unitsO
  rcases isOp_kind ho with hk | hk | hk
  · rw [if_neg (by rw [hk]; decide), if_pos hk, if_pos hk]; exact h.insert _ _
  · rw [if_neg (by rw [hk]; decide), if_neg (by rw [hk]; decide), if_neg (by rw [hk]; decide), if_neg (by rw [hk]; decide)]; exact h.delete _ hb hb2
  · rw [if_pos hk, if_neg (by rw [hk]; decide), if_pos hk]; exact h.retain _ _ hb
theorem units_length {us : List Un} : us.length ≤ takesU us + makesU us := by
  induction us with
  | nil => exact Nat.zero_le _
  | cons u us ih =>
    cases u with
    | ins r s => rw [takesU_i, makesU_i, List.length_cons]; omega
    | del => rw [takesU_d, makesU_d, List.length_cons]; omega
    | ret p => rw [takesU_r, makesU_r, List.length_cons]; omega
theorem ofM_told' : ∀ (x : List Opd) {m : Mk} {us : List Un}, Told m us → (∀ o ∈ x, isOp o) → us.length + (units x).length ≤ 4000000000 → Told (x.foldl tellO m) (us ++ units x)
  | [], m, us, h, _, _ => by rw [units_nil, List.append_nil]; exact h
  | o :: x, m, us, h, hi, hb => by
    rw [units_cons, List.length_append] at hb
    have ho := hi o (by simp)
    have hn : o.n ≤ (unitsO o).length := by
      unfold unitsO
      rcases isOp_kind ho with hk | hk | hk
      · obtain ⟨e, hr⟩ := opI_of ho hk
        rw [if_pos hk, e]
        show (0 : Int) ≤ _
        omega
      · rw [if_neg (by rw [hk]; decide), if_neg (by rw [hk]; decide), List.length_replicate]; omega
      · rw [if_neg (by rw [hk]; decide), if_pos hk, List.length_replicate]; omega
    have h1 := tellO_told h ho (by omega) (by omega)
    have h2 := ofM_told' x h1 (fun z hz => hi z (List.mem_cons_of_mem _ hz)) (by rw [List.length_append]; omega)
    rw [List.append_assoc] at h2
    rw [units_cons]
    exact h2
theorem ofM_told (x : List Opd) (hi : ∀ o ∈ x, isOp o) (hb : (units x).length ≤ 4000000000) : Told (ofM x) (units x) := by
  have := ofM_told' x Told.new hi (by simpa using hb)
  rwa [List.nil_append] at this
end Go.Proofs.YtnppoifgfehpfaaGreatDoor
