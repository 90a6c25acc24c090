/- Merged texts: OpSize, NormLaw, ComLaw, RoundLaw, SumX, DoesKit2. -/
import Derived.Test.YtfnkjcodcoehcaaGreatDoorS25
import Derived.Test.YtfnkjcodcoehcaaGreatDoorS23
import Derived.Test.YtfnkjcodcoehcaaGreatDoorS19
import Derived.Test.YtfnkjcodcoehcaaGreatDoorS24
namespace Go.Proofs.YtfnkjcodcoehcaaGreatDoor
open Go.RowKit
set_option linter.unusedVariables false
set_option linter.unusedSimpArgs false

def szA (s : List At) : Nat := (s.map (fun a => a.v.s.size)).sum
def szC (p : List Ch) : Nat := (p.map (fun a => a.v.s.size)).sum
def szO (o : Opd) : Nat := 1 + o.r.length + o.s.length + o.p.length + szA o.s + szC o.p
def szX (x : List OpS) : Nat := (x.map (fun o => szO o.o)).sum
theorem sum_take1 {α : Type} (f : α → Nat) {l : List α} {i : Nat} {a : α} (h : l[i]? = some a) : ((l.take (i + 1)).map f).sum = ((l.take i).map f).sum + f a := by
  rw [List.take_add_one, h]; simp
theorem sum_take_le {α : Type} (f : α → Nat) (l : List α) (i : Nat) : ((l.take i).map f).sum ≤ (l.map f).sum := by
  conv => rhs; rw [← List.take_append_drop i l]
  rw [List.map_append, List.sum_append]; omega
theorem szX_mem {x : List OpS} {o : OpS} (h : o ∈ x) : szO o.o ≤ szX x := by
  induction x with
  | nil => cases h
  | cons a x ih =>
    show _ ≤ szO a.o + szX x
    rcases List.mem_cons.1 h with rfl | h
    · omega
    · have := ih h; omega

set_option maxRecDepth 100000 in
set_option maxHeartbeats 1600000 in
theorem sizeX2_any (A : Option Addr) (n c : Nat) (x : List OpS) (w : World) (hn : n = x.length) (h : RdOp w w.heap.size A x) (hb : n ≤ 140737488355328) (hz : szX x ≤ 4611686018427387904) :
    Calls Tryz.prog 87 #[.slice A n c] w fun e w' => e = .returned (.int .i64 (szX x : Int)) ∧ ∃ d, w' = w.drewN d := by
  have N := Lib.hid hn
  have Z := Lib.hid hz
  clear hn hz
  go_enter Tryz.func87, Tryz.ntmps87
  go_wp2_with (fail)
  go_loopg [3, 4] n (fun g av iv wr => ∃ (m a : Nat), m ≤ n ∧ g = n - m ∧ a = szX (x.take m) ∧ av = .int .i64 (a : Int) ∧ iv = .int .i64 (m : Int) ∧ ∃ d, wr = w.drewN d)
  case atStart => exact ⟨0, 0, by omega, rfl, rfl, rfl, rfl, 0, rfl⟩
  case round =>
    obtain ⟨m, a, hm, hg, ha, rfl, rfl, d, rfl⟩ := hrel
    have HG := Lib.hid hg
    have HA := Lib.hid ha
    clear hg ha
    by_cases hlt : m < n
    · have hl1 : m < x.length := by have := N.out; omega
      obtain ⟨ad, o, had0, had, hd1, hx1, hc0⟩ := h.1.el hl1
      subst had0
      have hmem := List.mem_of_getElem? hx1
      obtain ⟨g1, g2, g3⟩ := h.2 o hmem
      have TK : Hid (szX (x.take (m + 1)) = a + szO o.o) := Lib.hid (by rw [HA.out]; exact sum_take1 (fun o : OpS => szO o.o) hx1)
      have TB : Hid (a + szO o.o ≤ 4611686018427387904) := Lib.hid (by rw [← TK.out]; exact Nat.le_trans (sum_take_le (fun o : OpS => szO o.o) x (m + 1)) Z.out)
      obtain ⟨⟨k, nn, r, s, p⟩, Ar, cr, As, cs, Ap, cp⟩ := o
      simp only at g1 g2 g3 TK TB
      obtain ⟨r0, r1, r2, r3, r4⟩ := op_cells hc0
      obtain ⟨nr, hnr⟩ : ∃ X, r.length = X := ⟨_, rfl⟩
      obtain ⟨ns, hns⟩ : ∃ X, s.length = X := ⟨_, rfl⟩
      obtain ⟨np, hnp⟩ : ∃ X, p.length = X := ⟨_, rfl⟩
      have SO : Hid (szO ⟨k, nn, r, s, p⟩ = 1 + nr + ns + np + szA s + szC p) := Lib.hid (by rw [← hnr, ← hns, ← hnp]; rfl)
      have NS := Lib.hid hns
      have NP := Lib.hid hnp
      have B0 : a + 1 + nr + ns + np ≤ 4611686018427387904 := by have := TB.out; rw [SO.out] at this; omega
      rw [hnr] at r2
      rw [hns] at r3
      rw [hnp] at r4
      have hw2 : IntKind.i64.wrap ((m:Int) + 1) = (m : Int) + 1 := IntWalk.i64_in _ (by omega)
      have e1 : IntKind.i64.wrap ((a:Int) + 1) = (a : Int) + 1 := IntWalk.i64_in _ (by omega)
      have e2 : IntKind.i64.wrap ((a:Int) + 1 + (nr : Int)) = (a : Int) + 1 + nr := IntWalk.i64_in _ (by omega)
      have e3 : IntKind.i64.wrap ((a:Int) + 1 + (nr : Int) + (ns : Int)) = (a : Int) + 1 + nr + ns := IntWalk.i64_in _ (by omega)
      have e4 : IntKind.i64.wrap ((a:Int) + 1 + (nr : Int) + (ns : Int) + (np : Int)) = (a : Int) + 1 + nr + ns + np := IntWalk.i64_in _ (by omega)
      clear hc0 hd1 hx1 hmem hns hnp hnr
      go_wp2_with (fail)
      go_quiet (fail)
      go_wp2_with (fail)
      clear e1 e2 e3
      go_loopg [3, 5] ns (fun g av iv wi => ∃ (j b : Nat), j ≤ ns ∧ g = ns - j ∧ b = a + 1 + nr + ns + np + szA (s.take j) ∧ av = .int .i64 (b : Int) ∧ iv = .int .i64 (j : Int) ∧ ∃ d, wi = w.drewN d)
      case atStart => exact ⟨0, a + 1 + nr + ns + np, by omega, rfl, rfl, by first | rfl | (go_num) | (simp only [e4]; rfl) | (congr 1), rfl, _, (by first | rfl | exact World.drewN_drewN _ _ _)⟩
      case round =>
        obtain ⟨j, b, hj, hg2, hbj, rfl, rfl, d2, rfl⟩ := hrel
        have HG2 := Lib.hid hg2
        have HB := Lib.hid hbj
        clear hg2 hbj e4
        by_cases hls : j < ns
        · obtain ⟨ad2, z, e2, _, _, hzj, hz⟩ := g2.el (i := j) (by have := NS.out; omega)
          subst e2
          have T2 : Hid (szA (s.take (j + 1)) = szA (s.take j) + z.v.s.size) := Lib.hid (sum_take1 (fun a : At => a.v.s.size) hzj)
          have T3 : Hid (szA (s.take (j + 1)) ≤ szA s) := Lib.hid (sum_take_le (fun a : At => a.v.s.size) s (j + 1))
          obtain ⟨z1, ⟨z2, z3, z4, z5⟩⟩ := z
          simp only at T2
          obtain ⟨s0, s1, s2, s3, s4⟩ := at_cells hz
          have hw3 : IntKind.i64.wrap ((j:Int) + 1) = (j : Int) + 1 := IntWalk.i64_in _ (by omega)
          have bnd : b + z5.size ≤ 4611686018427387904 := by
            have h1 := TB.out; have h2 := SO.out; have h3 := T2.out; have h4 := T3.out; have h5 := HB.out; omega
          have hw4 : IntKind.i64.wrap ((b:Int) + (z5.size : Int)) = (b : Int) + z5.size := IntWalk.i64_in _ (by omega)
          clear hz hzj
          go_wp2_with (fail)
          go_roundg (ns - (j + 1))
          case measure => have := HG2.out; omega
          case rel => exact ⟨j + 1, b + z5.size, by omega, rfl, by have := HB.out; have := T2.out; omega, by go_num, by go_num, _, rfl⟩
        · have hjn : j = ns := by omega
          have HB9 : Hid (b = a + 1 + nr + ns + np + szA s) := Lib.hid (by have := HB.out; rwa [hjn, List.take_of_length_le (by rw [NS.out]; omega)] at this)
          clear hjn
          go_wp2_with (fail)
          go_loopg [3, 6] np (fun g av iv wi => ∃ (j q : Nat), j ≤ np ∧ g = np - j ∧ q = b + szC (p.take j) ∧ av = .int .i64 (q : Int) ∧ iv = .int .i64 (j : Int) ∧ ∃ d, wi = w.drewN d)
          case atStart => exact ⟨0, b, by omega, rfl, rfl, rfl, rfl, _, rfl⟩
          case round =>
            obtain ⟨t, q, ht, hg2, hq, rfl, rfl, d2, rfl⟩ := hrel
            have HG3 := Lib.hid hg2
            have HQ := Lib.hid hq
            clear hg2 hq
            by_cases hls : t < np
            · obtain ⟨ad2, z, e2, _, _, hzj, hz⟩ := g3.el (i := t) (by have := NP.out; omega)
              subst e2
              have T2 : Hid (szC (p.take (t + 1)) = szC (p.take t) + z.v.s.size) := Lib.hid (sum_take1 (fun a : Ch => a.v.s.size) hzj)
              have T3 : Hid (szC (p.take (t + 1)) ≤ szC p) := Lib.hid (sum_take_le (fun a : Ch => a.v.s.size) p (t + 1))
              obtain ⟨z1, z6, ⟨z2, z3, z4, z5⟩⟩ := z
              simp only at T2
              obtain ⟨s0, s1, s2, s3, s4, s5⟩ := ch_cells hz
              have hw3 : IntKind.i64.wrap ((t:Int) + 1) = (t : Int) + 1 := IntWalk.i64_in _ (by omega)
              have bnd : q + z5.size ≤ 4611686018427387904 := by
                have h1 := TB.out; have h2 := SO.out; have h3 := T2.out; have h4 := T3.out; have h5 := HB9.out; have h6 := HQ.out; omega
              have hw4 : IntKind.i64.wrap ((q:Int) + (z5.size : Int)) = (q : Int) + z5.size := IntWalk.i64_in _ (by omega)
              clear hz hzj
              go_wp2_with (fail)
              go_roundg (np - (t + 1))
              case measure => have := HG3.out; omega
              case rel => exact ⟨t + 1, q + z5.size, by omega, rfl, by have := HQ.out; have := T2.out; omega, by go_num, by go_num, _, rfl⟩
            · have htn : t = np := by omega
              have HQ9 : Hid (q = szX (x.take (m + 1))) := Lib.hid (by
                have h1 := HQ.out
                rw [htn, List.take_of_length_le (by rw [NP.out]; omega)] at h1
                rw [TK.out, SO.out, h1, HB9.out]; omega)
              clear htn
              go_wp2_with (fail)
              go_roundg (n - (m + 1))
              case measure => have := HG.out; omega
              case rel => exact ⟨m + 1, q, by omega, rfl, HQ9.out, rfl, by go_num, _, rfl⟩
    · have HA9 : Hid (a = szX x) := Lib.hid (by have := HA.out; rwa [List.take_of_length_le (by have := N.out; omega)] at this)
      have e := HA9.out
      clear HA9 HA
      go_wp2_with (fail)
      go_ret
      subst e
      exact ⟨rfl, _, rfl⟩
end Go.Proofs.YtfnkjcodcoehcaaGreatDoor
namespace Go.Proofs.YtfnkjcodcoehcaaGreatDoor
set_option linter.unusedVariables false
set_option linter.unusedSimpArgs false

def tellO (m : Mk) (o : Opd) : Mk := if o.k = 1 then mkRetain m o.n o.p else if o.k = 2 then mkInsert m o.r o.s else mkDelete m o.n
def ofM (x : List Opd) : Mk := x.foldl tellO Mk.new
theorem ofM_snoc (x : List Opd) (o : Opd) : ofM (x ++ [o]) = tellO (ofM x) o := by unfold ofM; rw [List.foldl_append]; rfl
theorem MkB.tellO {m : Mk} {K S : Nat} (h : MkB m K S) {o : Opd} (hs : o.s.length ≤ S) (hp : o.p.length ≤ S) : MkB (tellO m o) (K + 2 * (1 + o.r.length)) S := by
  unfold Go.Proofs.YtfnkjcodcoehcaaGreatDoor.tellO
  split
  · exact (h.retain o.n hp).mono (by omega) (Nat.le_refl _)
  · split
    · exact (h.insert o.r hs).mono (by omega) (Nat.le_refl _)
    · exact (h.delete o.n).mono (by omega) (Nat.le_refl _)
/-- ops and their runes, counted -/
def szN (x : List OpS) : Nat := (x.map (fun o => 1 + o.o.r.length)).sum
theorem szN_cons (o : OpS) (x : List OpS) : szN (o :: x) = 1 + o.o.r.length + szN x := rfl
theorem szN_len (x : List OpS) : x.length ≤ szN x := by
  induction x with
  | nil => exact Nat.zero_le _
  | cons a x ih => rw [szN_cons, List.length_cons]; omega
theorem szN_mem {x : List OpS} {o : OpS} (h : o ∈ x) : o.o.r.length ≤ szN x := by
  induction x with
  | nil => cases h
  | cons a x ih =>
    rw [szN_cons]
    rcases List.mem_cons.1 h with rfl | h
    · omega
    · have := ih h; omega
theorem szN_take (x : List OpS) (i : Nat) : szN (x.take i) ≤ szN x := sum_take_le (fun o : OpS => 1 + o.o.r.length) x i
theorem szN_le (x : List OpS) : szN x ≤ szX x := by
  induction x with
  | nil => exact Nat.zero_le _
  | cons a x ih =>
    have e : szX (a :: x) = szO a.o + szX x := rfl
    rw [szN_cons, e]
    unfold szO; omega
theorem ofM_B {S : Nat} : ∀ (x : List OpS) {m : Mk} {K : Nat}, MkB m K S → (∀ o ∈ x, o.o.s.length ≤ S ∧ o.o.p.length ≤ S) → MkB ((osOf x).foldl tellO m) (K + 2 * szN x) S
  | [], m, K, h, _ => h
  | o :: x, m, K, h, hs => by
    have h1 := h.tellO (hs o (by simp)).1 (hs o (by simp)).2
    have h2 := ofM_B x h1 (fun z hz => hs z (List.mem_cons_of_mem _ hz))
    rw [szN_cons]
    exact h2.mono (by omega) (Nat.le_refl _)
theorem ofM_bndN {S : Nat} (x : List OpS) (hs : ∀ o ∈ x, o.o.s.length ≤ S ∧ o.o.p.length ≤ S) : MkB (ofM (osOf x)) (2 * szN x) S := by
  have := ofM_B x (MkB.new S) hs
  rwa [Nat.zero_add] at this
theorem tellO_told {m : Mk} {us : List Un} (h : Told m us) {o : Opd} (ho : isOp o) (hb : (us.length : Int) + o.n ≤ 4611686018427387904) (hb2 : us.length ≤ 4611686018427387904) : Told (tellO m o) (us ++ unitsO o) := by
  unfold tellO unitsO
  rcases isOp_kind ho with hk | hk | hk
  · rw [if_neg (by rw [hk]; decide), if_pos hk, if_pos hk]; exact h.insert _ _
  · rw [if_neg (by rw [hk]; decide), if_neg (by rw [hk]; decide), if_neg (by rw [hk]; decide), if_neg (by rw [hk]; decide)]; exact h.delete _ hb hb2
  · rw [if_pos hk, if_neg (by rw [hk]; decide), if_pos hk]; exact h.retain _ _ hb
theorem units_length {us : List Un} : us.length ≤ takesU us + makesU us := by
  induction us with
  | nil => exact Nat.zero_le _
  | cons u us ih =>
    cases u with
    | ins r s => rw [takesU_i, makesU_i, List.length_cons]; omega
    | del => rw [takesU_d, makesU_d, List.length_cons]; omega
    | ret p => rw [takesU_r, makesU_r, List.length_cons]; omega
theorem ofM_told' : ∀ (x : List Opd) {m : Mk} {us : List Un}, Told m us → (∀ o ∈ x, isOp o) → us.length + (units x).length ≤ 4000000000 → Told (x.foldl tellO m) (us ++ units x)
  | [], m, us, h, _, _ => by rw [units_nil, List.append_nil]; exact h
  | o :: x, m, us, h, hi, hb => by
    rw [units_cons, List.length_append] at hb
    have ho := hi o (by simp)
    have hn : o.n ≤ (unitsO o).length := by
      unfold unitsO
      rcases isOp_kind ho with hk | hk | hk
      · obtain ⟨e, hr⟩ := opI_of ho hk
        rw [if_pos hk, e]
        show (0 : Int) ≤ _
        omega
      · rw [if_neg (by rw [hk]; decide), if_neg (by rw [hk]; decide), List.length_replicate]; omega
      · rw [if_neg (by rw [hk]; decide), if_pos hk, List.length_replicate]; omega
    have h1 := tellO_told h ho (by omega) (by omega)
    have h2 := ofM_told' x h1 (fun z hz => hi z (List.mem_cons_of_mem _ hz)) (by rw [List.length_append]; omega)
    rw [List.append_assoc] at h2
    rw [units_cons]
    exact h2
end Go.Proofs.YtfnkjcodcoehcaaGreatDoor
namespace Go.Proofs.YtfnkjcodcoehcaaGreatDoor
set_option linter.unusedVariables false
set_option linter.unusedSimpArgs false

def isDel : Un → Bool
  | .del => true
  | _ => false
/-- both deltas as one -/
def compU (l : List Ky) : List Un → List Un → List Un
  | us, [] => us
  | us, .ins r s :: vs => .ins r s :: compU l us vs
  | us, .del :: vs => us.takeWhile isDel ++ (match us.dropWhile isDel with
    | [] => .del :: compU l [] vs
    | .ins _ _ :: us' => compU l us' vs
    | .del :: us' => compU l us' vs
    | .ret _ :: us' => .del :: compU l us' vs)
  | us, .ret q :: vs => us.takeWhile isDel ++ (match us.dropWhile isDel with
    | [] => .ret (composeP [] q) :: compU l [] vs
    | .ins r s :: us' => .ins r (actC l ⟨r, s⟩ q).s :: compU l us' vs
    | .del :: us' => compU l us' vs
    | .ret p :: us' => .ret (composeP p q) :: compU l us' vs)
section
variable (l : List Ky) (us vs : List Un) (r : Int) (s : List At) (p q : List Ch)
theorem compU_nil : compU l us [] = us := by unfold compU; rfl
theorem compU_ins : compU l us (.ins r s :: vs) = .ins r s :: compU l us vs := by rw [compU]
theorem compU_dd : compU l (.del :: us) (.del :: vs) = .del :: compU l us (.del :: vs) := by rw [compU, compU]; rfl
theorem compU_dr : compU l (.del :: us) (.ret q :: vs) = .del :: compU l us (.ret q :: vs) := by rw [compU, compU]; rfl
theorem compU_nd : compU l [] (.del :: vs) = .del :: compU l [] vs := by rw [compU]; rfl
theorem compU_nr : compU l [] (.ret q :: vs) = .ret (composeP [] q) :: compU l [] vs := by rw [compU]; rfl
theorem compU_id : compU l (.ins r s :: us) (.del :: vs) = compU l us vs := by rw [compU]; rfl
theorem compU_ir : compU l (.ins r s :: us) (.ret q :: vs) = .ins r (actC l ⟨r, s⟩ q).s :: compU l us vs := by rw [compU]; rfl
theorem compU_rd : compU l (.ret p :: us) (.del :: vs) = .del :: compU l us vs := by rw [compU]; rfl
theorem compU_rr : compU l (.ret p :: us) (.ret q :: vs) = .ret (composeP p q) :: compU l us vs := by rw [compU]; rfl
end
theorem comp_ind {P : List Un → List Un → Prop} (nil : ∀ us, P us []) (ins : ∀ us r s vs, P us vs → P us (.ins r s :: vs))
    (dd : ∀ us vs, P us (.del :: vs) → P (.del :: us) (.del :: vs)) (dr : ∀ us q vs, P us (.ret q :: vs) → P (.del :: us) (.ret q :: vs))
    (nd : ∀ vs, P [] vs → P [] (.del :: vs)) (nr : ∀ q vs, P [] vs → P [] (.ret q :: vs))
    (id : ∀ r s us vs, P us vs → P (.ins r s :: us) (.del :: vs)) (ir : ∀ r s us q vs, P us vs → P (.ins r s :: us) (.ret q :: vs))
    (rd : ∀ p us vs, P us vs → P (.ret p :: us) (.del :: vs)) (rr : ∀ p us q vs, P us vs → P (.ret p :: us) (.ret q :: vs)) : ∀ vs us, P us vs := by
  intro vs
  induction vs with
  | nil => exact nil
  | cons v vs ih =>
    intro us
    cases v with
    | ins r s => exact ins us r s vs (ih us)
    | del =>
      induction us with
      | nil => exact nd vs (ih [])
      | cons u us ihu =>
        cases u with
        | ins r s => exact id r s us vs (ih us)
        | del => exact dd us vs ihu
        | ret p => exact rd p us vs (ih us)
    | ret q =>
      induction us with
      | nil => exact nr q vs (ih [])
      | cons u us ihu =>
        cases u with
        | ins r s => exact ir r s us q vs (ih us)
        | del => exact dr us q vs ihu
        | ret p => exact rr p us q vs (ih us)
/-- how much it takes and makes -/
theorem comp_size (l : List Ky) : ∀ vs us, takesU (compU l us vs) = takesU us + (takesU vs - makesU us) ∧ makesU (compU l us vs) = makesU vs + (makesU us - takesU vs) := by
  refine comp_ind ?_ ?_ ?_ ?_ ?_ ?_ ?_ ?_ ?_ ?_
  · intro us; rw [compU_nil]; simp [takesU, makesU]
  · intro us r s vs ⟨h1, h2⟩; rw [compU_ins, takesU_i, takesU_i, makesU_i, makesU_i]; omega
  · intro us vs ⟨h1, h2⟩
    rw [takesU_d] at h1 h2; rw [makesU_d] at h2
    rw [compU_dd, takesU_d, takesU_d, takesU_d, makesU_d, makesU_d, makesU_d]; omega
  · intro us q vs ⟨h1, h2⟩
    rw [takesU_r] at h1 h2; rw [makesU_r] at h2
    rw [compU_dr, takesU_d, takesU_d, takesU_r, makesU_d, makesU_d, makesU_r]; omega
  · intro vs ⟨h1, h2⟩
    have e1 : takesU [] = 0 := rfl
    have e2 : makesU [] = 0 := rfl
    rw [compU_nd, takesU_d, takesU_d, makesU_d, makesU_d]; omega
  · intro q vs ⟨h1, h2⟩
    have e1 : takesU [] = 0 := rfl
    have e2 : makesU [] = 0 := rfl
    rw [compU_nr, takesU_r, takesU_r, makesU_r, makesU_r]; omega
  · intro r s us vs ⟨h1, h2⟩; rw [compU_id, takesU_i, takesU_d, makesU_i, makesU_d]; omega
  · intro r s us q vs ⟨h1, h2⟩; rw [compU_ir, takesU_i, takesU_i, takesU_r, makesU_i, makesU_i, makesU_r]; omega
  · intro p us vs ⟨h1, h2⟩; rw [compU_rd, takesU_d, takesU_d, takesU_r, makesU_d, makesU_d, makesU_r]; omega
  · intro p us q vs ⟨h1, h2⟩; rw [compU_rr, takesU_r, takesU_r, takesU_r, makesU_r, makesU_r, makesU_r]; omega
theorem mem_tail {P : Un → Prop} {u : Un} {us : List Un} (h : ∀ x ∈ u :: us, P x) : ∀ x ∈ us, P x := fun x hx => h x (List.mem_cons_of_mem _ hx)
/-- what holds of all units of both, and of what they come to, holds of all that come -/
theorem comp_all {P : Un → Prop} (l : List Ky) (hd : P .del) (hir : ∀ r s q, P (.ins r s) → P (.ret q) → P (.ins r (actC l ⟨r, s⟩ q).s)) (hnr : ∀ q, P (.ret q) → P (.ret (composeP [] q))) (hrr : ∀ p q, P (.ret p) → P (.ret q) → P (.ret (composeP p q))) :
    ∀ vs us, (∀ u ∈ us, P u) → (∀ v ∈ vs, P v) → ∀ x ∈ compU l us vs, P x := by
  have cons : ∀ {u : Un} {t : List Un}, P u → (∀ x ∈ t, P x) → ∀ x ∈ u :: t, P x := fun h1 h2 x hx => by
    rcases List.mem_cons.1 hx with rfl | hx
    · exact h1
    · exact h2 x hx
  refine comp_ind ?_ ?_ ?_ ?_ ?_ ?_ ?_ ?_ ?_ ?_
  · intro us h1 _; rw [compU_nil]; exact h1
  · intro us r s vs ih h1 h2; rw [compU_ins]; exact cons (h2 _ (by simp)) (ih h1 (mem_tail h2))
  · intro us vs ih h1 h2; rw [compU_dd]; exact cons hd (ih (mem_tail h1) h2)
  · intro us q vs ih h1 h2; rw [compU_dr]; exact cons hd (ih (mem_tail h1) h2)
  · intro vs ih h1 h2; rw [compU_nd]; exact cons hd (ih h1 (mem_tail h2))
  · intro q vs ih h1 h2; rw [compU_nr]; exact cons (hnr q (h2 _ (by simp))) (ih h1 (mem_tail h2))
  · intro r s us vs ih h1 h2; rw [compU_id]; exact ih (mem_tail h1) (mem_tail h2)
  · intro r s us q vs ih h1 h2; rw [compU_ir]; exact cons (hir r s q (h1 _ (by simp)) (h2 _ (by simp))) (ih (mem_tail h1) (mem_tail h2))
  · intro p us vs ih h1 h2; rw [compU_rd]; exact cons hd (ih (mem_tail h1) (mem_tail h2))
  · intro p us q vs ih h1 h2; rw [compU_rr]; exact cons (hrr p q (h1 _ (by simp)) (h2 _ (by simp))) (ih (mem_tail h1) (mem_tail h2))
theorem comp_mU {l : List Ky} (hl : l.length ≤ 64) {us vs : List Un} (hu : ∀ u ∈ us, mU l u) (hv : ∀ v ∈ vs, mU l v) : ∀ x ∈ compU l us vs, mU l x :=
  comp_all l trivial (fun r s q h1 h2 => ⟨h1.1, stay_apply hl h1.2 (stay_filter _ h2)⟩) (fun q h => by rw [law_nil_left (mayP_zero h).2.1]; exact h) (fun p q h1 h2 => stay_comp hl h1 h2) vs us hu hv
/-- values in their ranges -/
theorem comp_okUn {l : List Ky} {us vs : List Un} (hu : ∀ u ∈ us, mU l u ∧ okUn u) (hv : ∀ v ∈ vs, mU l v ∧ okUn v) (hl : l.length ≤ 64) : ∀ x ∈ compU l us vs, mU l x ∧ okUn x := by
  refine comp_all (P := fun u => mU l u ∧ okUn u) l ⟨trivial, trivial⟩ (fun r s q h1 h2 => ⟨⟨h1.1.1, stay_apply hl h1.1.2 (stay_filter _ h2.1)⟩, ?_⟩) (fun q h => by rw [law_nil_left (mayP_zero h.1).2.1]; exact h) (fun p q h1 h2 => ⟨stay_comp hl h1.1 h2.1, vs_comp (mayP_zero h1.1).2.1 (mayP_zero h2.1).2.1 h1.2 h2.2⟩) vs us hu hv
  exact vr_act (c := ⟨r, s⟩) h1.1.2 h2.1 h1.2 h2.2
theorem comp_len (l : List Ky) : ∀ vs us, (compU l us vs).length ≤ us.length + vs.length := by
  refine comp_ind ?_ ?_ ?_ ?_ ?_ ?_ ?_ ?_ ?_ ?_
  · intro us; rw [compU_nil]; simp
  · intro us r s vs ih; rw [compU_ins]; simp only [List.length_cons]; omega
  · intro us vs ih; rw [compU_dd]; simp only [List.length_cons] at *; omega
  · intro us q vs ih; rw [compU_dr]; simp only [List.length_cons] at *; omega
  · intro vs ih; rw [compU_nd]; simp only [List.length_cons] at *; omega
  · intro q vs ih; rw [compU_nr]; simp only [List.length_cons] at *; omega
  · intro r s us vs ih; rw [compU_id]; simp only [List.length_cons] at *; omega
  · intro r s us q vs ih; rw [compU_ir]; simp only [List.length_cons] at *; omega
  · intro p us vs ih; rw [compU_rd]; simp only [List.length_cons] at *; omega
  · intro p us q vs ih; rw [compU_rr]; simp only [List.length_cons] at *; omega
theorem comp_gone (l : List Ky) (s : List At) (us vs : List Un) : ∀ (r : List Int), compU l (r.map (fun r => Un.ins r s) ++ us) (List.replicate r.length .del ++ vs) = compU l us vs
  | [] => rfl
  | a :: r => by
    rw [List.length_cons, List.replicate_succ]
    show compU l (.ins a s :: (r.map (fun r => Un.ins r s) ++ us)) (.del :: (List.replicate r.length .del ++ vs)) = _
    rw [compU_id, comp_gone l s us vs r]
end Go.Proofs.YtfnkjcodcoehcaaGreatDoor
namespace Go.Proofs.YtfnkjcodcoehcaaGreatDoor
set_option linter.unusedVariables false
set_option linter.unusedSimpArgs false

theorem FitU.up {l : List Ky} {us : List Un} {n a b : Nat} (h : FitU l us n a) (hab : a ≤ b) : FitU l us n b :=
  ⟨h.v, h.t, h.n1, by have := h.nm; omega, h.f, by have := h.m; omega, h.tb, h.mb⟩
/-- a delta that is applied, of no great size -/
structure In (l : List Ky) (x : List OpS) (d : List Cl) (most : Int) (N : Nat) : Prop where
  n : N ≤ 10000
  le : (N : Int) ≤ most
  at_ : applyN l x d (N : Int) = 0
  may : mayO l x = 0
  isop : ∀ o ∈ x, isOp o.o
  fit : FitU l (units (osOf x)) d.length N
  mu : ∀ u ∈ units (osOf x), mU l u
  len : (app l (units (osOf x)) d).length ≤ d.length + szX x
  dn : d.length ≤ N
  an : (app l (units (osOf x)) d).length ≤ N
  doc : mayD l d = 0
  ul : (units (osOf x)).length ≤ 2 * d.length + szX x
/-- what is made of it may be -/
theorem In.out {l : List Ky} {x : List OpS} {d : List Cl} {most : Int} {N : Nat} (h : In l x d most N) (hl : l.length ≤ 64) : mayD l (app l (units (osOf x)) d) = 0 :=
  app_mayD hl h.doc h.fit (by have := h.fit.m; have := h.n; have := h.fit.t; omega)
theorem In.rise {l : List Ky} {x : List OpS} {d : List Cl} {most : Int} {N : Nat} (h : In l x d most N) : ∀ c ∈ d, riseA c.s = true := fun c hc =>
  (mayS_zero ((mayD_iff.1 h.doc).2.1 c hc).2.1).2.1
end Go.Proofs.YtfnkjcodcoehcaaGreatDoor
namespace Go.Proofs.YtfnkjcodcoehcaaGreatDoor
set_option linter.unusedVariables false
set_option linter.unusedSimpArgs false

theorem szX_len (x : List OpS) : x.length ≤ szX x := by
  induction x with
  | nil => exact Nat.zero_le _
  | cons a x ih =>
    show _ ≤ szO a.o + szX x
    unfold szO
    rw [List.length_cons]; omega
def sumX (L : List SX) : Nat := (L.map (fun s => szX s.l)).sum
end Go.Proofs.YtfnkjcodcoehcaaGreatDoor
namespace Go.Proofs.YtfnkjcodcoehcaaGreatDoor
open Go.RowKit
set_option linter.unusedVariables false
set_option linter.unusedSimpArgs false

theorem fold_os {σ : Type} {f : σ → OpS → σ} (hf : ∀ a o o', o.o = o'.o → f a o = f a o') : ∀ (x y : List OpS) (a : σ), osOf x = osOf y → x.foldl f a = y.foldl f a
  | [], [], a, _ => rfl
  | [], o :: y, a, h => by simp [osOf] at h
  | o :: x, [], a, h => by simp [osOf] at h
  | o :: x, o' :: y, a, h => by
    unfold osOf at h
    rw [List.map_cons, List.map_cons, List.cons.injEq] at h
    rw [List.foldl_cons, List.foldl_cons, hf a o o' h.1]
    exact fold_os hf x y _ h.2
theorem mayO_os2 {l : List Ky} {x y : List OpS} (h : osOf x = osOf y) : mayO l x = mayO l y := by
  have e1 : x.foldl (mayStep l) (false, 0) = y.foldl (mayStep l) (false, 0) := fold_os (fun a o o' h => by unfold mayStep; rw [h]) x y _ h
  have e2 : takesP x = takesP y := fold_os (fun a o o' h => by unfold takeStep; rw [h]) x y _ h
  have e3 : makesP x = makesP y := fold_os (fun a o o' h => by unfold makeStep; rw [h]) x y _ h
  unfold mayO
  rw [e1, e2, e3]
theorem szX_os {x y : List OpS} (h : osOf x = osOf y) : szX x = szX y := by
  have : ∀ z : List OpS, szX z = ((osOf z).map szO).sum := fun z => by unfold szX osOf; rw [List.map_map]; rfl
  rw [this, this, h]
theorem len_os {x y : List OpS} (h : osOf x = osOf y) : x.length = y.length := by
  have := congrArg List.length h
  unfold osOf at this
  rwa [List.length_map, List.length_map] at this
theorem all_os {P : Opd → Prop} {x y : List OpS} (h : osOf x = osOf y) (hy : ∀ o ∈ y, P o.o) : ∀ o ∈ x, P o.o := fun o ho => by
  have hm : o.o ∈ osOf x := by unfold osOf; exact List.mem_map_of_mem ho
  rw [h] at hm
  obtain ⟨z, hz, e⟩ := List.mem_map.1 hm
  rw [← e]; exact hy z hz
theorem setCell_up2 {B : Nat} {w0 w : World} (h : Below B w0 w) {g : Nat} (hg : B ≤ g) (j : Nat) (u : Value) : Below B w0 (w.setCell ⟨g, j, none⟩ u) := h.setCell (p := ⟨g, j, none⟩) hg u
theorem copy15D {w : World} {A : Option Addr} {n c : Nat} {x : List OpS} (h : OpsAt w A n x) : Calls Tryz.prog 32 #[.slice A n c] w (NewOpC (osOf x) w) := by
  refine (copy15_any A n c x w h.len h.rd (by have := h.b; omega) (fun o ho => by obtain ⟨_, _, a, b, c⟩ := h.ok o ho; omega)).mono ?_
  rintro e w' ⟨A', c', z, he, hz, ho, hp, y⟩
  obtain ⟨k1, k2⟩ := cap_own ho
  exact ⟨A', c', z, he, hz, ⟨⟨rd_made ho hp, rfl, all_os hz h.ok, by rw [len_os hz, ← h.len]; exact h.b⟩, k1, k2, fun o hm => by obtain ⟨g, hg⟩ := hp o hm; exact cap_part hg⟩, y⟩
end Go.Proofs.YtfnkjcodcoehcaaGreatDoor
