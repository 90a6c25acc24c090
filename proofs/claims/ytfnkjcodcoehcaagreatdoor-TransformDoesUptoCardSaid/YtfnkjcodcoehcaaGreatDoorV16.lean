/- Merged texts: OpSize, NormLaw, SumX, DoesKit2, RefSet, RefPut, LessP, PastLaw, RefPatLaw, Ref06W, FitsClass, RefMay05, RowF, OfLaw. -/
import Derived.Test.YtfnkjcodcoehcaaGreatDoorV15
import Derived.Test.YtfnkjcodcoehcaaGreatDoorV14
import Derived.Test.YtfnkjcodcoehcaaGreatDoorV11
import Derived.Test.YtfnkjcodcoehcaaGreatDoorV10
import Derived.Test.YtfnkjcodcoehcaaGreatDoorV7
import Derived.Deep.RegionHeld3
import Derived.Test.YtfnkjcodcoehcaaGreatDoorV6
import Derived.Test.YtfnkjcodcoehcaaGreatDoorV9
namespace Go.Proofs.YtfnkjcodcoehcaaGreatDoor
open Go.RowKit
set_option linter.unusedVariables false
set_option linter.unusedSimpArgs false

def szA (s : List At) : Nat := (s.map (fun a => a.v.s.size)).sum
def szC (p : List Ch) : Nat := (p.map (fun a => a.v.s.size)).sum
def szO (o : Opd) : Nat := 1 + o.r.length + o.s.length + o.p.length + szA o.s + szC o.p
def szX (x : List OpS) : Nat := (x.map (fun o => szO o.o)).sum
theorem sum_take1 {α : Type} (f : α → Nat) {l : List α} {i : Nat} {a : α} (h : l[i]? = some a) : ((l.take (i + 1)).map f).sum = ((l.take i).map f).sum + f a := by
  rw [List.take_add_one, h]; simp
theorem sum_take_le {α : Type} (f : α → Nat) (l : List α) (i : Nat) : ((l.take i).map f).sum ≤ (l.map f).sum := by
  conv => rhs; rw [← List.take_append_drop i l]
  rw [List.map_append, List.sum_append]; omega
theorem szX_mem {x : List OpS} {o : OpS} (h : o ∈ x) : szO o.o ≤ szX x := by
  induction x with
  | nil => cases h
  | cons a x ih =>
    show _ ≤ szO a.o + szX x
    rcases List.mem_cons.1 h with rfl | h
    · omega
    · have := ih h; omega

set_option maxRecDepth 100000 in
set_option maxHeartbeats 1600000 in
theorem sizeX2_any (A : Option Addr) (n c : Nat) (x : List OpS) (w : World) (hn : n = x.length) (h : RdOp w w.heap.size A x) (hb : n ≤ 140737488355328) (hz : szX x ≤ 4611686018427387904) :
    Calls Tryz.prog 87 #[.slice A n c] w fun e w' => e = .returned (.int .i64 (szX x : Int)) ∧ ∃ d, w' = w.drewN d := by
  have N := Lib.hid hn
  have Z := Lib.hid hz
  clear hn hz
  go_enter Tryz.func87, Tryz.ntmps87
  go_wp2_with (fail)
  go_loopg [3, 4] n (fun g av iv wr => ∃ (m a : Nat), m ≤ n ∧ g = n - m ∧ a = szX (x.take m) ∧ av = .int .i64 (a : Int) ∧ iv = .int .i64 (m : Int) ∧ ∃ d, wr = w.drewN d)
  case atStart => exact ⟨0, 0, by omega, rfl, rfl, rfl, rfl, 0, rfl⟩
  case round =>
    obtain ⟨m, a, hm, hg, ha, rfl, rfl, d, rfl⟩ := hrel
    have HG := Lib.hid hg
    have HA := Lib.hid ha
    clear hg ha
    by_cases hlt : m < n
    · have hl1 : m < x.length := by have := N.out; omega
      obtain ⟨ad, o, had0, had, hd1, hx1, hc0⟩ := h.1.el hl1
      subst had0
      have hmem := List.mem_of_getElem? hx1
      obtain ⟨g1, g2, g3⟩ := h.2 o hmem
      have TK : Hid (szX (x.take (m + 1)) = a + szO o.o) := Lib.hid (by rw [HA.out]; exact sum_take1 (fun o : OpS => szO o.o) hx1)
      have TB : Hid (a + szO o.o ≤ 4611686018427387904) := Lib.hid (by rw [← TK.out]; exact Nat.le_trans (sum_take_le (fun o : OpS => szO o.o) x (m + 1)) Z.out)
      obtain ⟨⟨k, nn, r, s, p⟩, Ar, cr, As, cs, Ap, cp⟩ := o
      simp only at g1 g2 g3 TK TB
      obtain ⟨r0, r1, r2, r3, r4⟩ := op_cells hc0
      obtain ⟨nr, hnr⟩ : ∃ X, r.length = X := ⟨_, rfl⟩
      obtain ⟨ns, hns⟩ : ∃ X, s.length = X := ⟨_, rfl⟩
      obtain ⟨np, hnp⟩ : ∃ X, p.length = X := ⟨_, rfl⟩
      have SO : Hid (szO ⟨k, nn, r, s, p⟩ = 1 + nr + ns + np + szA s + szC p) := Lib.hid (by rw [← hnr, ← hns, ← hnp]; rfl)
      have NS := Lib.hid hns
      have NP := Lib.hid hnp
      have B0 : a + 1 + nr + ns + np ≤ 4611686018427387904 := by have := TB.out; rw [SO.out] at this; omega
      rw [hnr] at r2
      rw [hns] at r3
      rw [hnp] at r4
      have hw2 : IntKind.i64.wrap ((m:Int) + 1) = (m : Int) + 1 := IntWalk.i64_in _ (by omega)
      have e1 : IntKind.i64.wrap ((a:Int) + 1) = (a : Int) + 1 := IntWalk.i64_in _ (by omega)
      have e2 : IntKind.i64.wrap ((a:Int) + 1 + (nr : Int)) = (a : Int) + 1 + nr := IntWalk.i64_in _ (by omega)
      have e3 : IntKind.i64.wrap ((a:Int) + 1 + (nr : Int) + (ns : Int)) = (a : Int) + 1 + nr + ns := IntWalk.i64_in _ (by omega)
      have e4 : IntKind.i64.wrap ((a:Int) + 1 + (nr : Int) + (ns : Int) + (np : Int)) = (a : Int) + 1 + nr + ns + np := IntWalk.i64_in _ (by omega)
      clear hc0 hd1 hx1 hmem hns hnp hnr
      go_wp2_with (fail)
      go_quiet (fail)
      go_wp2_with (fail)
      clear e1 e2 e3
      go_loopg [3, 5] ns (fun g av iv wi => ∃ (j b : Nat), j ≤ ns ∧ g = ns - j ∧ b = a + 1 + nr + ns + np + szA (s.take j) ∧ av = .int .i64 (b : Int) ∧ iv = .int .i64 (j : Int) ∧ ∃ d, wi = w.drewN d)
      case atStart => exact ⟨0, a + 1 + nr + ns + np, by omega, rfl, rfl, by first | rfl | (go_num) | (simp only [e4]; rfl) | (congr 1), rfl, _, (by first | rfl | exact World.drewN_drewN _ _ _)⟩
      case round =>
        obtain ⟨j, b, hj, hg2, hbj, rfl, rfl, d2, rfl⟩ := hrel
        have HG2 := Lib.hid hg2
        have HB := Lib.hid hbj
        clear hg2 hbj e4
        by_cases hls : j < ns
        · obtain ⟨ad2, z, e2, _, _, hzj, hz⟩ := g2.el (i := j) (by have := NS.out; omega)
          subst e2
          have T2 : Hid (szA (s.take (j + 1)) = szA (s.take j) + z.v.s.size) := Lib.hid (sum_take1 (fun a : At => a.v.s.size) hzj)
          have T3 : Hid (szA (s.take (j + 1)) ≤ szA s) := Lib.hid (sum_take_le (fun a : At => a.v.s.size) s (j + 1))
          obtain ⟨z1, ⟨z2, z3, z4, z5⟩⟩ := z
          simp only at T2
          obtain ⟨s0, s1, s2, s3, s4⟩ := at_cells hz
          have hw3 : IntKind.i64.wrap ((j:Int) + 1) = (j : Int) + 1 := IntWalk.i64_in _ (by omega)
          have bnd : b + z5.size ≤ 4611686018427387904 := by
            have h1 := TB.out; have h2 := SO.out; have h3 := T2.out; have h4 := T3.out; have h5 := HB.out; omega
          have hw4 : IntKind.i64.wrap ((b:Int) + (z5.size : Int)) = (b : Int) + z5.size := IntWalk.i64_in _ (by omega)
          clear hz hzj
          go_wp2_with (fail)
          go_roundg (ns - (j + 1))
          case measure => have := HG2.out; omega
          case rel => exact ⟨j + 1, b + z5.size, by omega, rfl, by have := HB.out; have := T2.out; omega, by go_num, by go_num, _, rfl⟩
        · have hjn : j = ns := by omega
          have HB9 : Hid (b = a + 1 + nr + ns + np + szA s) := Lib.hid (by have := HB.out; rwa [hjn, List.take_of_length_le (by rw [NS.out]; omega)] at this)
          clear hjn
          go_wp2_with (fail)
          go_loopg [3, 6] np (fun g av iv wi => ∃ (j q : Nat), j ≤ np ∧ g = np - j ∧ q = b + szC (p.take j) ∧ av = .int .i64 (q : Int) ∧ iv = .int .i64 (j : Int) ∧ ∃ d, wi = w.drewN d)
          case atStart => exact ⟨0, b, by omega, rfl, rfl, rfl, rfl, _, rfl⟩
          case round =>
            obtain ⟨t, q, ht, hg2, hq, rfl, rfl, d2, rfl⟩ := hrel
            have HG3 := Lib.hid hg2
            have HQ := Lib.hid hq
            clear hg2 hq
            by_cases hls : t < np
            · obtain ⟨ad2, z, e2, _, _, hzj, hz⟩ := g3.el (i := t) (by have := NP.out; omega)
              subst e2
              have T2 : Hid (szC (p.take (t + 1)) = szC (p.take t) + z.v.s.size) := Lib.hid (sum_take1 (fun a : Ch => a.v.s.size) hzj)
              have T3 : Hid (szC (p.take (t + 1)) ≤ szC p) := Lib.hid (sum_take_le (fun a : Ch => a.v.s.size) p (t + 1))
              obtain ⟨z1, z6, ⟨z2, z3, z4, z5⟩⟩ := z
              simp only at T2
              obtain ⟨s0, s1, s2, s3, s4, s5⟩ := ch_cells hz
              have hw3 : IntKind.i64.wrap ((t:Int) + 1) = (t : Int) + 1 := IntWalk.i64_in _ (by omega)
              have bnd : q + z5.size ≤ 4611686018427387904 := by
                have h1 := TB.out; have h2 := SO.out; have h3 := T2.out; have h4 := T3.out; have h5 := HB9.out; have h6 := HQ.out; omega
              have hw4 : IntKind.i64.wrap ((q:Int) + (z5.size : Int)) = (q : Int) + z5.size := IntWalk.i64_in _ (by omega)
              clear hz hzj
              go_wp2_with (fail)
              go_roundg (np - (t + 1))
              case measure => have := HG3.out; omega
              case rel => exact ⟨t + 1, q + z5.size, by omega, rfl, by have := HQ.out; have := T2.out; omega, by go_num, by go_num, _, rfl⟩
            · have htn : t = np := by omega
              have HQ9 : Hid (q = szX (x.take (m + 1))) := Lib.hid (by
                have h1 := HQ.out
                rw [htn, List.take_of_length_le (by rw [NP.out]; omega)] at h1
                rw [TK.out, SO.out, h1, HB9.out]; omega)
              clear htn
              go_wp2_with (fail)
              go_roundg (n - (m + 1))
              case measure => have := HG.out; omega
              case rel => exact ⟨m + 1, q, by omega, rfl, HQ9.out, rfl, by go_num, _, rfl⟩
    · have HA9 : Hid (a = szX x) := Lib.hid (by have := HA.out; rwa [List.take_of_length_le (by have := N.out; omega)] at this)
      have e := HA9.out
      clear HA9 HA
      go_wp2_with (fail)
      go_ret
      subst e
      exact ⟨rfl, _, rfl⟩

def tellO (m : Mk) (o : Opd) : Mk := if o.k = 1 then mkRetain m o.n o.p else if o.k = 2 then mkInsert m o.r o.s else mkDelete m o.n
def ofM (x : List Opd) : Mk := x.foldl tellO Mk.new
theorem ofM_snoc (x : List Opd) (o : Opd) : ofM (x ++ [o]) = tellO (ofM x) o := by unfold ofM; rw [List.foldl_append]; rfl
theorem MkB.tellO {m : Mk} {K S : Nat} (h : MkB m K S) {o : Opd} (hs : o.s.length ≤ S) (hp : o.p.length ≤ S) : MkB (tellO m o) (K + 2 * (1 + o.r.length)) S := by
  unfold Go.Proofs.YtfnkjcodcoehcaaGreatDoor.tellO
  split
  · exact (h.retain o.n hp).mono (by omega) (Nat.le_refl _)
  · split
    · exact (h.insert o.r hs).mono (by omega) (Nat.le_refl _)
    · exact (h.delete o.n).mono (by omega) (Nat.le_refl _)
def szN (x : List OpS) : Nat := (x.map (fun o => 1 + o.o.r.length)).sum
theorem szN_cons (o : OpS) (x : List OpS) : szN (o :: x) = 1 + o.o.r.length + szN x := rfl
theorem szN_len (x : List OpS) : x.length ≤ szN x := by
  induction x with
  | nil => exact Nat.zero_le _
  | cons a x ih => rw [szN_cons, List.length_cons]; omega
theorem szN_mem {x : List OpS} {o : OpS} (h : o ∈ x) : o.o.r.length ≤ szN x := by
  induction x with
  | nil => cases h
  | cons a x ih =>
    rw [szN_cons]
    rcases List.mem_cons.1 h with rfl | h
    · omega
    · have := ih h; omega
theorem szN_take (x : List OpS) (i : Nat) : szN (x.take i) ≤ szN x := sum_take_le (fun o : OpS => 1 + o.o.r.length) x i
theorem szN_le (x : List OpS) : szN x ≤ szX x := by
  induction x with
  | nil => exact Nat.zero_le _
  | cons a x ih =>
    have e : szX (a :: x) = szO a.o + szX x := rfl
    rw [szN_cons, e]
    unfold szO; omega
theorem ofM_B {S : Nat} : ∀ (x : List OpS) {m : Mk} {K : Nat}, MkB m K S → (∀ o ∈ x, o.o.s.length ≤ S ∧ o.o.p.length ≤ S) → MkB ((osOf x).foldl tellO m) (K + 2 * szN x) S
  | [], m, K, h, _ => h
  | o :: x, m, K, h, hs => by
    have h1 := h.tellO (hs o (by simp)).1 (hs o (by simp)).2
    have h2 := ofM_B x h1 (fun z hz => hs z (List.mem_cons_of_mem _ hz))
    rw [szN_cons]
    exact h2.mono (by omega) (Nat.le_refl _)
theorem ofM_bndN {S : Nat} (x : List OpS) (hs : ∀ o ∈ x, o.o.s.length ≤ S ∧ o.o.p.length ≤ S) : MkB (ofM (osOf x)) (2 * szN x) S := by
  have := ofM_B x (MkB.new S) hs
  rwa [Nat.zero_add] at this
theorem tellO_told {m : Mk} {us : List Un} (h : Told m us) {o : Opd} (ho : isOp o) (hb : (us.length : Int) + o.n ≤ 4611686018427387904) (hb2 : us.length ≤ 4611686018427387904) : Told (tellO m o) (us ++ unitsO o) := by
  unfold tellO unitsO
  rcases isOp_kind ho with hk | hk | hk
  · rw [if_neg (by rw [hk]; decide), if_pos hk, if_pos hk]; exact h.insert _ _
  · rw [if_neg (by rw [hk]; decide), if_neg (by rw [hk]; decide), if_neg (by rw [hk]; decide), if_neg (by rw [hk]; decide)]; exact h.delete _ hb hb2
  · rw [if_pos hk, if_neg (by rw [hk]; decide), if_pos hk]; exact h.retain _ _ hb
theorem units_length {us : List Un} : us.length ≤ takesU us + makesU us := by
  induction us with
  | nil => exact Nat.zero_le _
  | cons u us ih =>
    cases u with
    | ins r s => rw [takesU_i, makesU_i, List.length_cons]; omega
    | del => rw [takesU_d, makesU_d, List.length_cons]; omega
    | ret p => rw [takesU_r, makesU_r, List.length_cons]; omega
theorem ofM_told' : ∀ (x : List Opd) {m : Mk} {us : List Un}, Told m us → (∀ o ∈ x, isOp o) → us.length + (units x).length ≤ 4000000000 → Told (x.foldl tellO m) (us ++ units x)
  | [], m, us, h, _, _ => by rw [units_nil, List.append_nil]; exact h
  | o :: x, m, us, h, hi, hb => by
    rw [units_cons, List.length_append] at hb
    have ho := hi o (by simp)
    have hn : o.n ≤ (unitsO o).length := by
      unfold unitsO
      rcases isOp_kind ho with hk | hk | hk
      · obtain ⟨e, hr⟩ := opI_of ho hk
        rw [if_pos hk, e]
        show (0 : Int) ≤ _
        omega
      · rw [if_neg (by rw [hk]; decide), if_neg (by rw [hk]; decide), List.length_replicate]; omega
      · rw [if_neg (by rw [hk]; decide), if_pos hk, List.length_replicate]; omega
    have h1 := tellO_told h ho (by omega) (by omega)
    have h2 := ofM_told' x h1 (fun z hz => hi z (List.mem_cons_of_mem _ hz)) (by rw [List.length_append]; omega)
    rw [List.append_assoc] at h2
    rw [units_cons]
    exact h2
theorem ofM_told (x : List Opd) (hi : ∀ o ∈ x, isOp o) (hb : (units x).length ≤ 4000000000) : Told (ofM x) (units x) := by
  have := ofM_told' x Told.new hi (by simpa using hb)
  rwa [List.nil_append] at this

theorem szX_len (x : List OpS) : x.length ≤ szX x := by
  induction x with
  | nil => exact Nat.zero_le _
  | cons a x ih =>
    show _ ≤ szO a.o + szX x
    unfold szO
    rw [List.length_cons]; omega
def sumX (L : List SX) : Nat := (L.map (fun s => szX s.l)).sum

theorem fold_os {σ : Type} {f : σ → OpS → σ} (hf : ∀ a o o', o.o = o'.o → f a o = f a o') : ∀ (x y : List OpS) (a : σ), osOf x = osOf y → x.foldl f a = y.foldl f a
  | [], [], a, _ => rfl
  | [], o :: y, a, h => by simp [osOf] at h
  | o :: x, [], a, h => by simp [osOf] at h
  | o :: x, o' :: y, a, h => by
    unfold osOf at h
    rw [List.map_cons, List.map_cons, List.cons.injEq] at h
    rw [List.foldl_cons, List.foldl_cons, hf a o o' h.1]
    exact fold_os hf x y _ h.2
theorem mayO_os2 {l : List Ky} {x y : List OpS} (h : osOf x = osOf y) : mayO l x = mayO l y := by
  have e1 : x.foldl (mayStep l) (false, 0) = y.foldl (mayStep l) (false, 0) := fold_os (fun a o o' h => by unfold mayStep; rw [h]) x y _ h
  have e2 : takesP x = takesP y := fold_os (fun a o o' h => by unfold takeStep; rw [h]) x y _ h
  have e3 : makesP x = makesP y := fold_os (fun a o o' h => by unfold makeStep; rw [h]) x y _ h
  unfold mayO
  rw [e1, e2, e3]
theorem szX_os {x y : List OpS} (h : osOf x = osOf y) : szX x = szX y := by
  have : ∀ z : List OpS, szX z = ((osOf z).map szO).sum := fun z => by unfold szX osOf; rw [List.map_map]; rfl
  rw [this, this, h]
theorem len_os {x y : List OpS} (h : osOf x = osOf y) : x.length = y.length := by
  have := congrArg List.length h
  unfold osOf at this
  rwa [List.length_map, List.length_map] at this
theorem all_os {P : Opd → Prop} {x y : List OpS} (h : osOf x = osOf y) (hy : ∀ o ∈ y, P o.o) : ∀ o ∈ x, P o.o := fun o ho => by
  have hm : o.o ∈ osOf x := by unfold osOf; exact List.mem_map_of_mem ho
  rw [h] at hm
  obtain ⟨z, hz, e⟩ := List.mem_map.1 hm
  rw [← e]; exact hy z hz
theorem copy15D {w : World} {A : Option Addr} {n c : Nat} {x : List OpS} (h : OpsAt w A n x) : Calls Tryz.prog 32 #[.slice A n c] w (NewOpC (osOf x) w) := by
  refine (copy15_any A n c x w h.len h.rd (by have := h.b; omega) (fun o ho => by obtain ⟨_, _, a, b, c⟩ := h.ok o ho; omega)).mono ?_
  rintro e w' ⟨A', c', z, he, hz, ho, hp, y⟩
  obtain ⟨k1, k2⟩ := cap_own ho
  exact ⟨A', c', z, he, hz, ⟨⟨rd_made ho hp, rfl, all_os hz h.ok, by rw [len_os hz, ← h.len]; exact h.b⟩, k1, k2, fun o hm => by obtain ⟨g, hg⟩ := hp o hm; exact cap_part hg⟩, y⟩

theorem or_yes {a : Bool} {P Q : Prop} (h : a = true ∧ P ∨ a = false ∧ Q) (ha : a = true) : P := by
  rcases h with ⟨_, h⟩ | ⟨h, _⟩
  · exact h
  · rw [ha] at h; cases h
theorem or_no {a : Bool} {P Q : Prop} (h : a = true ∧ P ∨ a = false ∧ Q) (ha : a = false) : Q := by
  rcases h with ⟨h, _⟩ | ⟨_, h⟩
  · rw [ha] at h; cases h
  · exact h
theorem filter_drop {α : Type} {p : α → Bool} {s : List α} {m : Nat} {x : α} {r R : List α} (hd : s.drop m = x :: s.drop (m + 1)) (h : r ++ (s.drop m).filter p = R) :
    p x = true ∧ (r ++ [x]) ++ (s.drop (m + 1)).filter p = R ∨ p x = false ∧ r ++ (s.drop (m + 1)).filter p = R := by
  rw [hd, List.filter_cons] at h
  cases hp : p x with
  | true => rw [hp, if_pos rfl] at h; exact .inl ⟨rfl, by rw [← h]; simp⟩
  | false => rw [hp] at h; simp only [Bool.false_eq_true, if_false] at h; exact .inr ⟨rfl, h⟩

def bnd (b : Bool) : Nat := if b = true then 1 else 0

def FindOut6 (l : List Ch) (id : Int) (w : World) (e : Ending) (w' : World) : Prop :=
  ∃ i g k n f s q, e = .returned (.tuple #[.agg #[.int .i64 i, .bool g, .int .u8 k, .int .i64 n, .int .u64 f, .string s], .bool q]) ∧ (lk Ch.key l id).getD ⟨0, false, V.zero⟩ = ⟨i, g, ⟨k, n, f, s⟩⟩ ∧ (lk Ch.key l id).isSome = q ∧ Below w.heap.size w w'
theorem lkC_drop {l : List Ch} {m : Nat} {x : Ch} {id : Int} {R : Option Ch} (hd : l.drop m = x :: l.drop (m + 1)) (h : lk Ch.key (l.drop m) id = R) (hx : ¬ x.key = id) : lk Ch.key (l.drop (m + 1)) id = R := by
  rw [hd, lk_cons, if_neg hx] at h; exact h
theorem lkC_hit {l : List Ch} {m : Nat} {x : Ch} {id : Int} {R : Option Ch} (hd : l.drop m = x :: l.drop (m + 1)) (h : lk Ch.key (l.drop m) id = R) (hx : x.key = id) : R = some x := by
  rw [hd, lk_cons, if_pos hx] at h; exact h.symm
set_option maxRecDepth 100000 in
set_option maxHeartbeats 800000 in
theorem find06_any (A : Option Addr) (n c : Nat) (l : List Ch) (id : Int) (w : World) (hn : n = l.length) (h : RdCh w w.heap.size A l) (hb : n ≤ 140737488355328) :
    Calls Tryz.prog 179 #[.slice A n c, .int .i64 id] w (FindOut6 l id w) := by
  have N := Lib.hid hn
  obtain ⟨R, hR⟩ : ∃ X, lk Ch.key l id = X := ⟨_, rfl⟩
  have HR := Lib.hid hR
  clear hn
  unfold FindOut6
  rw [hR]
  clear hR
  have y0 := ext_alloc w (.cells #[.int .i64 0, .bool false, .int .u8 0, .int .i64 0, .int .u64 0, .string ⟨#[]⟩] 77)
  have HB := Lib.hid (heap_alloc_new w (.cells #[.int .i64 0, .bool false, .int .u8 0, .int .i64 0, .int .u64 0, .string ⟨#[]⟩] 77))
  go_enter Tryz.func179, Tryz.ntmps179
  go_wp2_with (fail)
  go_loopg [6] n (fun g iv wr => ∃ m : Nat, m ≤ n ∧ g = n - m ∧ iv = .int .i64 (m : Int) ∧ wr = w.alloc (.cells #[.int .i64 0, .bool false, .int .u8 0, .int .i64 0, .int .u64 0, .string ⟨#[]⟩] 77) ∧ Hid (lk Ch.key (l.drop m) id = R))
  case atStart => exact ⟨0, by omega, rfl, rfl, rfl, Lib.hid (by rw [List.drop_zero]; exact HR.out)⟩
  case round =>
    obtain ⟨m, hm, hg, rfl, rfl, HI⟩ := hrel
    have HG := Lib.hid hg
    clear hg HR
    by_cases hlt : m < n
    · obtain ⟨ad, x, rfl, hd1, _, hc0⟩ := (h.ext y0).elIn (i := m) (by have := N.out; omega)
      have HD := Lib.hid hd1
      obtain ⟨x1, x6, x2, x3, x4, x5⟩ := x
      obtain ⟨r0, r1, r2, r3, r4, r5⟩ := ch_cells hc0.2
      clear hc0 hd1
      have hw2 : IntKind.i64.wrap ((m:Int) + 1) = (m : Int) + 1 := IntWalk.i64_in _ (by omega)
      obtain ⟨b0, b1, b2, b3, b4, b5⟩ := box_ch HB.out
      by_cases hle : x1 = id
      · subst hle
        go_wp2_with (fail)
        refine bodyPost_ret (v := .tuple #[.agg #[.int .i64 x1, .bool x6, .int .u8 x2, .int .i64 x3, .int .u64 x4, .string x5], .bool true]) (by simp [results, Tryz.results179, go_sem]) rfl ?_
        have hr := lkC_hit HD.out HI.out rfl
        exact ⟨x1, x6, x2, x3, x4, x5, true, rfl, by rw [hr]; rfl, by rw [hr]; rfl, by first | exact ext_alloc w _ | trace_state⟩
      · go_wp2_with (fail)
        go_roundg (n - (m + 1))
        case measure => have := HG.out; omega
        case rel => exact ⟨m + 1, by omega, rfl, by go_num, rfl, Lib.hid (lkC_drop HD.out HI.out hle)⟩
    · have HE : Hid (R = none) := Lib.hid (by have h := HI.out; rw [List.drop_eq_nil_of_le (by have := N.out; omega), lk_nil] at h; exact h.symm)
      go_wp2_with (fail)
      refine bodyPost_ret (v := .tuple #[.agg #[.int .i64 0, .bool false, .int .u8 0, .int .i64 0, .int .u64 0, .string ⟨#[]⟩], .bool false]) (by simp [results, Tryz.results179, go_sem]) rfl ?_
      exact ⟨0, false, 0, 0, 0, ⟨#[]⟩, false, rfl, by rw [HE.out]; rfl, by rw [HE.out]; rfl, by first | exact ext_trans (ext_alloc w _) (ext_alloc _ _) | exact ext_alloc w _ | trace_state⟩

def hasKey (q : List Ch) (k : Int) : Bool := q.any (fun d => d.key == k)
def lessP (p q : List Ch) : List Ch := p.filter (fun c => !hasKey q c.key)
theorem hasKey_lk (p : List Ch) (k : Int) : hasKey p k = (lk Ch.key p k).isSome := by
  cases h : (lk Ch.key p k).isSome with
  | true =>
    obtain ⟨c, hc, hk⟩ := (lk_isSome Ch.key).1 h
    exact List.any_eq_true.2 ⟨c, hc, by simpa using hk⟩
  | false =>
    refine List.any_eq_false.2 fun c hc hk => ?_
    have : (lk Ch.key p k).isSome = true := (lk_isSome Ch.key).2 ⟨c, hc, by simpa using hk⟩
    rw [h] at this; cases this

theorem lessR_is (p q : List Ch) : p.filter (fun c => (lk Ch.key q c.key).isNone) = lessP p q := by
  unfold lessP
  congr 1
  funext c
  rw [hasKey_lk]
  cases lk Ch.key q c.key <;> rfl

set_option maxRecDepth 100000 in
set_option maxHeartbeats 3200000 in
theorem less06_any (A B : Option Addr) (n c k d : Nat) (l q : List Ch) (w : World) (hn : n = l.length) (hk : k = q.length) (h : RdCh w w.heap.size A l) (h2 : RdCh w w.heap.size B q) (hb : n ≤ 1000000) (hb2 : k ≤ 1000000) :
    Calls Tryz.prog 123 #[.slice A n c, .slice B k d] w (NewCh (lessP l q) w) := by
  have N := Lib.hid hn
  have K := Lib.hid hk
  obtain ⟨R, hR⟩ : ∃ X, lessP l q = X := ⟨_, rfl⟩
  have HR : Hid (l.filter (fun c => (lk Ch.key q c.key).isNone) = R) := Lib.hid (by rw [lessR_is]; exact hR)
  rw [hR]
  clear hn hR hk
  go_enter Tryz.func123, Tryz.ntmps123
  go_wp2_with (fail)
  go_loopg [5, 6] n (fun g ov iv wr => ∃ (m : Nat) (r : List Ch), m ≤ n ∧ g = n - m ∧ iv = .int .i64 (m : Int) ∧ OwCh wr w.heap.size ov r ∧ r.length ≤ m ∧ Below w.heap.size w wr ∧ Hid (r ++ (l.drop m).filter (fun c => (lk Ch.key q c.key).isNone) = R))
  case atStart => exact ⟨0, [], by omega, rfl, rfl, Ow.nil _ _, by simp, Below.refl _ _, Lib.hid (by simpa using HR.out)⟩
  case round =>
    obtain ⟨m, r, hm, hg, rfl, hown, hrl, y, HI⟩ := hrel
    have HG := Lib.hid hg
    clear hg HR
    by_cases hlt : m < n
    · have hlt' : (m : Int) < (n : Int) := by omega
      obtain ⟨ad, x, rfl, hd1, hx1, hc0⟩ := (h.ext y).elIn (i := m) (by have := N.out; omega)
      have hst := filter_drop hd1 HI.out
      obtain ⟨x1, x6, x2, x3, x4, x5⟩ := x
      have CX := Lib.hid hc0
      obtain ⟨r0, r1, r2, r3, r4, r5⟩ := ch_cells CX.out.2
      have HST := Lib.hid hst
      have hw2 : IntKind.i64.wrap ((m:Int) + 1) = (m : Int) + 1 := IntWalk.i64_in _ (by omega)
      clear hst hc0 hd1 hx1 HI
      go_wp2_with (go_at_call 179; refine Hid.out ?_)
      refine Lib.hid ?_
      clear r0 r1 r2 r3 r4 r5
      refine (find06_any B k d q x1 _ K.out (h2.ext y) (by omega)).mono ?_
      rintro e w3 ⟨i, g1, k1, n1, f1, s1, ok, rfl, -, hq, y3⟩
      have y4 := ext_alloc w3 (.cells #[.int .i64 i, .bool g1, .int .u8 k1, .int .i64 n1, .int .u64 f1, .string s1] 77)
      have hbx := heap_alloc_new w3 (.cells #[.int .i64 i, .bool g1, .int .u8 k1, .int .i64 n1, .int .u64 f1, .string s1] 77)
      have y5 := ext_trans y3 y4
      have CX := Lib.hid (CX.out.ext y5)
      have HOW := Lib.hid (hown.below y5 (Nat.le_refl _))
      have y6 := ext_trans y y5
      obtain ⟨r0, r1, r2, r3, r4, r5⟩ := ch_cells CX.out.2
      obtain ⟨a0, a1, a2, a3, a4, a5⟩ := box_ch hbx
      have HQ : Hid ((lk Ch.key q x1).isNone = !ok) := Lib.hid (by rw [← hq]; cases lk Ch.key q x1 <;> rfl)
      clear hq hbx hown y3 y4 y5
      cases ok with
      | true =>
        have HN : Hid (r ++ (l.drop (m + 1)).filter (fun c => (lk Ch.key q c.key).isNone) = R) := Lib.hid (or_no HST.out HQ.out)
        go_wp2_with (fail)
        go_roundg (n - (m + 1))
        case measure => have := HG.out; omega
        case rel => exact ⟨m + 1, r, by omega, rfl, by go_num, by first | exact HOW.out | exact HOW.out.drewN _, by omega, by first | exact y6 | exact below_drewN y6 _, HN⟩
      | false =>
        have HN : Hid ((r ++ [⟨x1, x6, ⟨x2, x3, x4, x5⟩⟩]) ++ (l.drop (m + 1)).filter (fun c => (lk Ch.key q c.key).isNone) = R) := Lib.hid (or_yes HST.out HQ.out)
        go_wp2_with ((at_builtin; refine app_ch (m := [⟨x1, x6, ⟨x2, x3, x4, x5⟩⟩]) rfl (.tmp 27) (.tmp 32) rfl rfl (by first | exact (HOW.out.drewN _).alloc _ | exact HOW.out.alloc _) _ _ 1 1 rfl rfl (by first | exact rd_one _ _ _ rfl | exact rd_one_at (enc := Ch.enc) (size := 6) (w3.alloc _) _ ⟨x1, x6, ⟨x2, x3, x4, x5⟩⟩ rfl (by rw [World.size_alloc])) (by simp only [List.length_singleton]; omega) (by exact Nat.le_trans y6.size (le_alloc _ _)) ?_; intro v' w' hown' hgr hv'))
        have s1 := below_app (by first | exact (below_drewN y6 _).alloc y6.size _ | exact y6.alloc y6.size _) (by exact Nat.le_trans y6.size (le_alloc _ _)) (by first | exact (HOW.out.drewN _).alloc _ | exact HOW.out.alloc _) (Nat.le_refl _) hgr
        go_roundg (n - (m + 1))
        case measure => have := HG.out; omega
        case rel => exact ⟨m + 1, r ++ [⟨x1, x6, ⟨x2, x3, x4, x5⟩⟩], by omega, rfl, by go_num, hown', by simp; omega, s1, HN⟩
    · have hR : r = R := by
        have h := HI.out
        rw [List.drop_eq_nil_of_le (by have := N.out; omega)] at h
        simpa using h
      subst hR
      obtain ⟨A', c', rfl, _, _⟩ := hown.form
      have HOW := Lib.hid hown
      clear hown
      go_wp2_with (fail)
      go_ret
      exact ⟨A', c', rfl, HOW.out, y⟩

theorem all_drop {α : Type} {f : α → Bool} {l : List α} {m : Nat} {x : α} {R : Bool} (hd : l.drop m = x :: l.drop (m + 1)) (h : (l.drop m).all f = R) : (f x && (l.drop (m + 1)).all f) = R := by
  rw [hd] at h; simpa using h
theorem fitsR_class {A : Option Addr} {nn cc : Nat} {l : List Ky} {id k n f : Int} {t : ByteArray} {w : World} {O : List (Nat × Obj)} {b : Bool} (hT : Lib.Utf8Tabs 1 2 w) (hn : nn = l.length) (h : RdKy w w.heap.size A l) (hb : nn ≤ 140737488355328) (h0 : 0 ≤ f) (h1 : f < 18446744073709551616) (hsz : t.size ≤ 100000000) (x : GW w O) (hf : fitsK l id ⟨k, n, f, t⟩ = b) :
    Calls Tryz.prog 175 #[.slice A nn cc, .int .i64 id, .agg #[.int .u8 k, .int .i64 n, .int .u64 f, .string t]] x.val fun e w' => e = .returned (.bool b) ∧ ∃ y : GW w O, w' = y.val :=
  good_call x ((fitsR_any A nn cc l id k n f t x.val hn (h.ext x.ok.1) hb h0 h1 hsz (tabs_good hT x)).mono fun e w' h' => ⟨by rw [h'.1, hf], h'.2⟩)

set_option maxRecDepth 100000 in
set_option maxHeartbeats 3200000 in
theorem mayR5_any (A B : Option Addr) (n c n2 c2 : Nat) (l : List Ky) (p : List At) (w : World) (hn : n = l.length) (h : RdKy w w.heap.size A l) (hb : n ≤ 140737488355328) (hn2 : n2 = p.length) (h2 : RdAt w w.heap.size B p) (hb2 : n2 ≤ 140737488355328) (hv : okVa p) (hT : Lib.Utf8Tabs 1 2 w) :
    Calls Tryz.prog 107 #[.slice A n c, .slice B n2 c2] w fun e w' => e = .returned (.int .i64 (mayS l p)) ∧ Below w.heap.size w w' := by
  have N := Lib.hid hn
  have N2 := Lib.hid hn2
  generalize hR : mayS l p = R
  have HR := Lib.hid hR
  clear hn hn2 hR
  go_enter Tryz.func107, Tryz.ntmps107
  go_wp2_with (go_at_call 35; refine Hid.out ?_)
  refine Lib.hid ?_
  refine (risingA_any B n2 c2 p w N2.out h2 hb2).mono ?_
  rintro e w1 ⟨rfl, d, rfl⟩
  generalize hrr : riseA p = Q
  have HQ := Lib.hid hrr
  clear hrr
  cases Q with
  | false =>
    go_wp2_with (fail)
    go_ret
    refine ⟨ret_int ?_, ext_drew _ _⟩
    rw [← HR.out]
    unfold mayS
    rw [HQ.out]
    by_cases h : 64 < p.length <;> simp [h]
  | true =>
    by_cases h64 : (64 : Int) < (n2 : Int)
    · go_wp2_with (fail)
      go_ret
      refine ⟨ret_int ?_, ext_drew _ _⟩
      rw [← HR.out]
      unfold mayS
      rw [if_pos (by have := N2.out; omega)]
    have HP : Hid ((if p.all okA = true then (if p.all (thereA l) = true then 0 else 4) else 3) = R) := Lib.hid (by
      rw [← HR.out]
      unfold mayS
      rw [if_neg (show ¬ (64 < p.length) by have := N2.out; omega), HQ.out]
      simp)
    obtain ⟨R1, hR1⟩ : ∃ X, p.all okA = X := ⟨_, rfl⟩
    have HR1 := Lib.hid hR1
    clear hR1
    go_wp2_with (fail)
    go_loopg [5] n2 (fun g iv wr => ∃ m : Nat, m ≤ n2 ∧ g = n2 - m ∧ iv = .int .i64 (m : Int) ∧ Below w.heap.size w wr ∧ Hid ((p.drop m).all okA = R1))
    case atStart => exact ⟨0, by omega, rfl, rfl, ext_drew _ _, Lib.hid (by rw [List.drop_zero]; exact HR1.out)⟩
    case round =>
      obtain ⟨m, hm, hg, rfl, y, HI⟩ := hrel
      have HG := Lib.hid hg
      clear hg HR
      by_cases hlt : m < n2
      · have hl1 : m < p.length := by have := N2.out; omega
        obtain ⟨ad, x, rfl, had, hd1, hx1, hc0⟩ := (h2.below y (Nat.le_refl _)).el hl1
        have hxv := hv x (List.mem_of_getElem? hx1)
        have HI2 := Lib.hid (all_drop hd1 HI.out)
        obtain ⟨x1, x2, x3, x4, x5⟩ := x
        obtain ⟨r0, r1, r2, r3, r4⟩ := at_cells hc0
        obtain ⟨f0, f1⟩ : 0 ≤ x4 ∧ x4 < 18446744073709551616 := ⟨hxv.1.f0, hxv.1.f1⟩
        have hsz : x5.size ≤ 100000000 := hxv.2
        clear hc0 hd1 hx1 hxv HI
        have hw2 : IntKind.i64.wrap ((m:Int) + 1) = (m : Int) + 1 := IntWalk.i64_in _ (by omega)
        go_wp2_with (go_at_call 174; refine Hid.out ?_)
        refine Lib.hid ?_
        refine (refMayV_any x2 x3 x4 x5 _ f0 f1 hsz ?tb).mono ?_
        case tb => exact tabs_at hT y rfl
        rintro e w6 ⟨rfl, y6⟩
        have HOK : Hid (okA ⟨x1, x2, x3, x4, x5⟩ = mayV ⟨x2, x3, x4, x5⟩) := Lib.hid rfl
        generalize mayV ⟨x2, x3, x4, x5⟩ = M at HOK ⊢
        have yy6 := below_at y y6 rfl rfl rfl rfl
        cases M with
        | false =>
          have HF : Hid (p.all okA = false) := Lib.hid (by rw [HR1.out, ← HI2.out, HOK.out]; rfl)
          go_wp2_with (fail)
          go_ret
          exact ⟨ret_int (by rw [← HP.out, HF.out]; rfl), yy6⟩
        | true =>
          go_wp2_with (fail)
          go_roundg (n2 - (m + 1))
          case measure => have := HG.out; omega
          case rel => exact ⟨m + 1, by omega, rfl, by go_num, yy6, Lib.hid (by rw [← HI2.out, HOK.out, Bool.true_and])⟩
      · have HF : Hid (p.all okA = true) := Lib.hid (by rw [HR1.out, ← HI.out, List.drop_eq_nil_of_le (by have := N2.out; omega)]; rfl)
        clear HI HR1
        obtain ⟨R2, hR2⟩ : ∃ X, p.all (thereA l) = X := ⟨_, rfl⟩
        have HR2 := Lib.hid hR2
        clear hR2
        go_wp2_with (fail)
        go_loopg [6] n2 (fun g iv wr => ∃ m : Nat, m ≤ n2 ∧ g = n2 - m ∧ iv = .int .i64 (m : Int) ∧ Below w.heap.size w wr ∧ Hid ((p.drop m).all (thereA l) = R2))
        case atStart => exact ⟨0, by omega, rfl, rfl, y, Lib.hid (by rw [List.drop_zero]; exact HR2.out)⟩
        case round =>
          obtain ⟨m, hm, hg, rfl, y, HI⟩ := hrel
          have HG := Lib.hid hg
          clear hg
          by_cases hlt : m < n2
          · have hl1 : m < p.length := by have := N2.out; omega
            obtain ⟨ad, x, rfl, had, hd1, hx1, hcw⟩ := h2.el hl1
            have hxv := hv x (List.mem_of_getElem? hx1)
            have HI2 := Lib.hid (all_drop hd1 HI.out)
            obtain ⟨x1, x2, x3, x4, x5⟩ := x
            have HCW := Lib.hid hcw
            obtain ⟨f0, f1⟩ : 0 ≤ x4 ∧ x4 < 18446744073709551616 := ⟨hxv.1.f0, hxv.1.f1⟩
            have hsz : x5.size ≤ 100000000 := hxv.2
            clear hd1 hx1 hxv HI hcw
            have hw2 : IntKind.i64.wrap ((m:Int) + 1) = (m : Int) + 1 := IntWalk.i64_in _ (by omega)
            have gg : GoodB w [] wr := ⟨y, by intro p hp; cases hp⟩
            have hx : ∀ x : GW w [], CellsAt x.val (ad.add (m * 5)) (At.enc ⟨x1, x2, x3, x4, x5⟩) := fun x => HCW.out.keep fun q hq => x.ok.1.cell (by rw [hq, add_block]; exact had)
            have r0 : ∀ x : GW w [], _ := fun x => (at_cells (hx x)).1
            have r1 : ∀ x : GW w [], _ := fun x => (at_cells (hx x)).2.1
            have r2 : ∀ x : GW w [], _ := fun x => (at_cells (hx x)).2.2.1
            have r3 : ∀ x : GW w [], _ := fun x => (at_cells (hx x)).2.2.2.1
            have r4 : ∀ x : GW w [], _ := fun x => (at_cells (hx x)).2.2.2.2
            clear hx
            haveI : Nonempty (GW w []) := ⟨⟨_, gg⟩⟩
            obtain ⟨FI, hFI⟩ : ∃ X, fitsK l x1 ⟨x2, x3, x4, x5⟩ = X := ⟨_, rfl⟩
            have HFI := Lib.hid hFI
            have HTH : Hid (thereA l ⟨x1, x2, x3, x4, x5⟩ = FI) := Lib.hid hFI
            clear hFI
            cases FI with
            | false =>
              go_wp2_with (fail)
              refine wp_region_class (by kernel_rfl) (by kernel_rfl) gg ?_
              repeat (go_big_quiet_step (first | (go_at_call 175; with_reducible exact fitsR_class hT N.out h hb f0 f1 hsz _ HFI.out)))
              refine wpQuiet_nil ?_
              intro _ hw'
              obtain ⟨xx, rfl⟩ := hw'
              have yx := xx.ok.1
              generalize xx.val = w8 at *
              clear r0 r1 r2 r3 r4
              go_wp2_with (fail)
              go_ret
              exact ⟨ret_int (by rw [← HP.out, HF.out, show p.all (thereA l) = false by rw [HR2.out, ← HI2.out, HTH.out]; rfl]; rfl), yx⟩
            | true =>
              go_wp2_with (fail)
              refine wp_region_class (by kernel_rfl) (by kernel_rfl) gg ?_
              repeat (go_big_quiet_step (first | (go_at_call 175; with_reducible exact fitsR_class hT N.out h hb f0 f1 hsz _ HFI.out)))
              refine wpQuiet_nil ?_
              intro _ hw'
              obtain ⟨xx, rfl⟩ := hw'
              have yx := xx.ok.1
              generalize xx.val = w8 at *
              clear r0 r1 r2 r3 r4
              go_wp2_with (fail)
              go_roundg (n2 - (m + 1))
              case measure => have := HG.out; omega
              case rel => exact ⟨m + 1, by omega, rfl, by go_num, yx, Lib.hid (by rw [← HI2.out, HTH.out, Bool.true_and])⟩
          · have HF2 : Hid (p.all (thereA l) = true) := Lib.hid (by rw [HR2.out, ← HI.out, List.drop_eq_nil_of_le (by have := N2.out; omega)]; rfl)
            go_wp2_with (fail)
            go_ret
            exact ⟨ret_int (by rw [← HP.out, HF.out, HF2.out]; rfl), y⟩

def RowG (F : Nat → Prop) (v : Value) : Nat → Prop := fun k => F k ∨ wb v = some k
structure RowF (w : World) (F : Nat → Prop) (B : Nat) (v : Value) (D : List OpS) : Prop where
  own : OwOs w B v D
  parts : ∀ x ∈ D, PartF w (RowG F v) x
section
variable {w w' : World} {F : Nat → Prop} {B : Nat} {v v' : Value} {D M : List OpS}
theorem RowF.nil (w : World) (F : Nat → Prop) (B : Nat) : RowF w F B (.slice none 0 0) [] := ⟨Ow.nil _ _, fun x hx => by cases hx⟩
theorem RowF.ext (h : RowF w F B v D) (y : Below w.heap.size w w') : RowF w' F B v D := ⟨h.own.below y (Nat.le_refl _), fun x hx => (h.parts x hx).grow (Grow.of y)⟩
theorem row_grow (g : w.grownBy w' (wb v)) (hv : v' = v ∧ w' = w ∨ wb v' = wb v ∨ wb v' = some w.heap.size) : Grow w (RowG F v) w' (RowG F v') :=
  ⟨g.os, g.tape, g.output, g.size, fun j hj hn => g.block j hj (fun e => hn (.inr e.symm)), fun k hk => by
    rcases hk with hk | hk
    · exact .inl (.inl hk)
    · rcases hv with ⟨rfl, _⟩ | h | h
      · exact .inl (.inr hk)
      · exact .inl (.inr (h ▸ hk))
      · rw [h] at hk; injection hk with hk; exact .inr (by omega)⟩
theorem RowF.app (h : RowF w F B v D) (hm : ∀ x ∈ M, PartF w (RowG F v) x) (ho : OwOs w' B v' (D ++ M)) (g : w.grownBy w' (wb v)) (hv : v' = v ∧ w' = w ∨ wb v' = wb v ∨ wb v' = some w.heap.size) : RowF w' F B v' (D ++ M) :=
  ⟨ho, fun x hx => by
    rcases List.mem_append.1 hx with hx | hx
    · exact (h.parts x hx).grow (row_grow g hv)
    · exact (hm x hx).grow (row_grow g hv)⟩
theorem PartF.fresh {w0 : World} {x : OpS} (h : PartF w0 F x) (y : Below w0.heap.size w0 w) (hv : ∀ k, wb v = some k → w0.heap.size ≤ k) : PartF w (RowG F v) x := by
  have p := h.grow (Grow.of (F := F) y)
  have off : ∀ {α : Type} {enc : α → List Value} {size : Nat} {A : Option Addr} {l : List α}, Rd enc size w0 w0.heap.size A l → OffF F A l.length → OffF (RowG F v) A l.length := fun hr h1 ad e hl hk => by
    rcases hk with hk | hk
    · exact h1 ad e hl hk
    · obtain ⟨ad', e', hb, _⟩ := hr hl
      rw [e] at e'; injection e' with e'; subst e'
      have := hv _ hk; omega
  exact ⟨⟨p.1.1, off h.1.1 h.1.2⟩, ⟨p.2.1.1, off h.2.1.1 h.2.1.2⟩, ⟨p.2.2.1, off h.2.2.1 h.2.2.2⟩⟩
theorem RowF.low (h : RowF w F B v D) : ∀ k, wb v = some k → B ≤ k := fun k hk => (h.own.wb_lt k hk).1
theorem RowF.set {g n c i j : Nat} {u : Value} {x' : OpS} (h : RowF w F B (.slice (some ⟨g, 0, none⟩) n c) D) (hi : i < D.length) (hj : j < 5) (he : x'.enc = D[i].enc.set j u) (hp : PartF w (RowG F (.slice (some ⟨g, 0, none⟩) n c)) x') :
    RowF (w.setCell ⟨g, i * 5 + j, none⟩ u) F B (.slice (some ⟨g, 0, none⟩) n c) (D.set i x') := by
  have hc : ∃ c', c = c' + 1 := by
    obtain ⟨A', c', hv, h1, _⟩ := h.own.form
    injection hv with _ hn hcc
    exact ⟨c - 1, by omega⟩
  obtain ⟨c', rfl⟩ := hc
  have gr : Grow w (RowG F (.slice (some ⟨g, 0, none⟩) n (c' + 1))) (w.setCell ⟨g, i * 5 + j, none⟩ u) (RowG F (.slice (some ⟨g, 0, none⟩) n (c' + 1))) := setCell_below g (i * 5 + j) u (.inr rfl) 0
  exact ⟨Ow.setEl OpS.enc_len h.own hi hj he, fun x hx => by
    rcases List.mem_or_eq_of_mem_set hx with hx | rfl
    · exact (h.parts x hx).grow gr
    · exact hp.grow gr⟩
end
set_option linter.unusedVariables false
set_option linter.unusedSimpArgs false

theorem tell_gap : ∀ (g : List Opd) (m : Mk) (D : List Opd), (∀ o ∈ g, o.k ≠ 1) → g.foldl tellO ⟨D, m.ins, m.gone⟩ = ⟨D, (g.foldl tellO m).ins, (g.foldl tellO m).gone⟩
  | [], m, D, _ => rfl
  | o :: g, m, D, h => by
    rw [List.foldl_cons, List.foldl_cons]
    have h1 : o.k ≠ 1 := h o (by simp)
    have e : tellO ⟨D, m.ins, m.gone⟩ o = ⟨D, (tellO m o).ins, (tellO m o).gone⟩ := by
      unfold tellO
      rw [if_neg h1, if_neg h1]
      split
      · unfold mkInsert; split <;> rfl
      · rfl
    rw [e]
    exact tell_gap g (tellO m o) D (fun z hz => h z (List.mem_cons_of_mem _ hz))
def gapP (g : List Opd) : List Opd := mkGap (ofM g)
theorem of_gap {pre g : List Opd} (hi : (ofM pre).ins = []) (hz : (ofM pre).gone = 0) (hg : ∀ o ∈ g, o.k ≠ 1) : ofM (pre ++ g) = ⟨(ofM pre).done, (ofM g).ins, (ofM g).gone⟩ := by
  have e : ofM (pre ++ g) = g.foldl tellO (ofM pre) := by unfold ofM; rw [List.foldl_append]
  rw [e]
  have e2 : ofM pre = ⟨(ofM pre).done, Mk.new.ins, Mk.new.gone⟩ := by
    show ofM pre = ⟨(ofM pre).done, [], 0⟩
    rw [← hi, ← hz]
  rw [e2]
  exact tell_gap g Mk.new _ hg
theorem gap_ends {pre g : List Opd} (hi : (ofM pre).ins = []) (hz : (ofM pre).gone = 0) (hg : ∀ o ∈ g, o.k ≠ 1) : (ofM (pre ++ g)).done ++ mkGap (ofM (pre ++ g)) = (ofM pre).done ++ gapP g := by
  rw [of_gap hi hz hg]; rfl
theorem of_ret {pre g : List Opd} {o : Opd} (hi : (ofM pre).ins = []) (hz : (ofM pre).gone = 0) (hg : ∀ z ∈ g, z.k ≠ 1) (hk : o.k = 1) (hn : 1 ≤ o.n) :
    ofM (pre ++ g ++ [o]) = ⟨addR ((ofM pre).done ++ gapP g) o.n o.p, [], 0⟩ := by
  rw [ofM_snoc]
  unfold tellO
  rw [if_pos hk]
  unfold mkRetain
  rw [if_neg (by omega), gap_ends hi hz hg]
theorem of_end {pre g : List Opd} (hi : (ofM pre).ins = []) (hz : (ofM pre).gone = 0) (hg : ∀ z ∈ g, z.k ≠ 1) : mkOps (ofM (pre ++ g)) = cutR ((ofM pre).done ++ gapP g) := by
  unfold mkOps; rw [gap_ends hi hz hg]
theorem of_is {x : List Opd} (h : ∀ o ∈ x, isOp o) (hb : (units x).length ≤ 4000000000) : mkOps (ofM x) = mkU (units x) := by
  have ht := ofM_told' x Told.new h (by simpa using hb)
  rw [List.nil_append] at ht
  exact told_mkU ht
theorem gap_ins {g : List Opd} {o : Opd} (ho : isOp o) (hk : o.k = 2) : ofM (g ++ [o]) = { ofM g with ins := addI (ofM g).ins o.r o.s } := by
  obtain ⟨_, hr⟩ := opI_of ho hk
  rw [ofM_snoc]; unfold tellO; rw [if_neg (by rw [hk]; decide), if_pos hk]
  unfold mkInsert; rw [if_neg hr]
theorem addI_last {d : List Opd} {a : Opd} {r : List Int} : addI (d ++ [a]) r a.s = d ++ [{ a with r := a.r ++ r }] := by
  unfold addI; simp
theorem addI_new {d : List Opd} {o : Opd} (ho : isOp o) (hk : o.k = 2) (h : ∀ a, d.getLast? = some a → a.s ≠ o.s) : addI d o.r o.s = d ++ [o] := by
  obtain ⟨e, _⟩ := opI_of ho hk
  unfold addI
  cases hd : d.getLast? with
  | none => simp only; rw [← e]
  | some a => simp only; rw [if_neg (h a hd), ← e]
theorem addR_last {d : List Opd} {a : Opd} {n : Int} (hk : a.k = 1) : addR (d ++ [a]) n a.p = d ++ [{ a with n := IntKind.i64.wrap (a.n + n) }] := by
  unfold addR; simp [hk]
theorem addR_new {d : List Opd} {o : Opd} (ho : isOp o) (hk : o.k = 1) (h : ∀ a, d.getLast? = some a → ¬ (a.k = 1 ∧ a.p = o.p)) : addR d o.n o.p = d ++ [o] := by
  obtain ⟨e, _⟩ := opR_of ho hk
  unfold addR
  cases hd : d.getLast? with
  | none => simp only; rw [← e]
  | some a => simp only; rw [if_neg (h a hd), ← e]
end Go.Proofs.YtfnkjcodcoehcaaGreatDoor
