/- slices.Grow from nothing and slices.Concat, over rows of ops. -/
import Derived.Test.YtipoeidmblnbbaaDoorPk7
import Derived.Lib.AppendZerosOnto
import Derived.Lib.Walk
import Derived.Lib.SliceRun
namespace Go.Proofs.YtipoeidmblnbbaaDoor
open Go.RowKit
set_option linter.unusedVariables false
set_option linter.unusedSimpArgs false

set_option maxRecDepth 100000 in
set_option maxHeartbeats 800000 in
theorem growOs_any (n : Nat) (w : World) (hb : n ≤ 100000000000) :
    Calls Tryd.prog 107 #[.slice none 0 0, .int .i64 (n : Int)] w (NewOs [] w) := by
  by_cases h0 : n = 0
  · subst h0
    go_enter Tryd.func107, Tryd.ntmps107
    go_wp2_with (fail)
    go_ret
    exact ⟨none, 0, rfl, Ow.nil _ _, Below.refl _ _⟩
  · obtain ⟨i0, hi0, hz0, hz1, hz2⟩ := info_parts Tryd.infoOp
    have hold : (Builtin.firstCells i0.size 0 (.slice none 0 0)).run Tryd.prog w.drew = .ok #[] w.drew := run_firstCells_none w.drew i0.size 0 0 0
    have hfit := growslice_fits (need := n) (old := 0) (bytes := i0.bytes) (by omega) (by rw [hz2]; omega)
    have hrz := fun ty => Lib.run_append_grow_zeros w 33 3 ty 45 i0 _ .i64 .i64 Tryd.slOp (by kernel_rfl) hi0 hz0 none 0 0 [] hold n (by omega) (by rw [hz1]; omega) (by omega) (by omega) (by rw [hz2]; omega) (by simpa using hfit)
    have hge := grownCap_ge w n 0 45
    have hle := grownCap_le_maxLen w n 0 45 (by unfold maxLen; omega)
    have hsz : (Value.agg #[.int .u8 0, .int .i64 0, .slice none 0 0, .slice none 0 0, .slice none 0 0]).cells.size = 5 := rfl
    simp only [Nat.zero_add] at hrz
    generalize hG : grownCap w n 0 45 = G at hrz hge hle
    have hG63 : G ≤ 9223372036854775807 := by unfold maxLen at hle; omega
    have hpos : (0 : Int) < (n : Int) := by omega
    generalize hcs : (([] : List Value).toArray ++ Builtin.zeroCells (Value.agg #[.int .u8 0, .int .i64 0, .slice none 0 0, .slice none 0 0, .slice none 0 0]).cells n ++ Builtin.zeroCells (Value.agg #[.int .u8 0, .int .i64 0, .slice none 0 0, .slice none 0 0, .slice none 0 0]).cells (G - n)) = cs at hrz
    have hcsz : cs.size = G * 5 := by
      rw [← hcs]
      simp only [Array.size_append, size_zeroCells, hsz]
      simp
      omega
    have HC := Lib.hid hcsz
    have HLE := Lib.hid hle
    clear hcs hcsz hG hold hi0 hz0 hz1 hz2 hsz hle hfit
    go_enter Tryd.func107, Tryd.ntmps107
    go_wp2_with (at_builtin; refine Lib.wpList_append_run _ rfl _ _ _ _ rfl _ _ rfl rfl _ _ (hrz _) ?_)
    go_ret
    refine ⟨some ⟨w.heap.size, 0, none⟩, G, rfl, .inr ⟨rfl, .inr ⟨w.heap.size, G, cs, rfl, Nat.le_refl _, ?_, Nat.zero_le _, HLE.out, HC.out, by simp⟩⟩, (ext_drew w 1).alloc (Nat.le_refl _) _⟩
    exact heap_alloc_new w.drew _

/-- a row of ops as an element of a row of rows -/
structure RwS where
  A : Option Addr
  l : List OpS
  c : Nat
def RwS.enc (x : RwS) : List Value := [.slice x.A x.l.length x.c]
def catR (rs : List RwS) (i : Nat) : List OpS := (rs.take i).flatMap (fun x => x.l)
theorem catR_succ {rs : List RwS} {i : Nat} {x : RwS} (h : rs[i]? = some x) : catR rs (i + 1) = catR rs i ++ x.l := by
  unfold catR
  rw [List.take_add_one, h, List.flatMap_append]
  simp
theorem catR_len {rs : List RwS} (h : ∀ x ∈ rs, x.l.length ≤ 20000001) (i : Nat) : (catR rs i).length ≤ i * 20000001 := by
  induction i with
  | zero => simp [catR]
  | succ i ih =>
    cases hx : rs[i]? with
    | none =>
      have e : catR rs (i + 1) = catR rs i := by unfold catR; rw [List.take_add_one, hx]; simp
      have e2 := congrArg List.length e
      omega
    | some x =>
      have e2 := congrArg List.length (catR_succ hx)
      rw [List.length_append] at e2
      have := h x (List.mem_of_getElem? hx)
      omega
theorem catR_all (rs : List RwS) (n : Nat) (h : n = rs.length) : catR rs n = rs.flatMap (fun x => x.l) := by
  subst h; unfold catR; rw [List.take_length]

set_option maxRecDepth 100000 in
set_option maxHeartbeats 800000 in
theorem concatOs_any (A : Option Addr) (n c : Nat) (rs : List RwS) (w : World) (hn : n = rs.length) (h : Rd RwS.enc 1 w w.heap.size A rs) (hr : ∀ x ∈ rs, RdOs w w.heap.size x.A x.l) (hb : n ≤ 1000) (hs : ∀ x ∈ rs, x.l.length ≤ 20000001) :
    Calls Tryd.prog 74 #[.slice A n c] w (NewOs (rs.flatMap (fun x => x.l)) w) := by
  have N := Lib.hid hn
  have HS := Lib.hid (fun i => catR_len hs i)
  have HS1 := Lib.hid hs
  have HA := Lib.hid (catR_all rs n hn)
  clear hn hs
  go_enter Tryd.func74, Tryd.ntmps74
  go_wp2_with (fail)
  go_loopg [3, 11] n (fun g sv iv wr => ∃ m : Nat, m ≤ n ∧ g = n - m ∧ sv = .int .i64 ((catR rs m).length : Int) ∧ iv = .int .i64 (m : Int) ∧ Below w.heap.size w wr)
  case atStart => exact ⟨0, by omega, rfl, rfl, rfl, Below.refl _ _⟩
  case round =>
    obtain ⟨m, hm, hg, rfl, rfl, y⟩ := hrel
    have HG := Lib.hid hg
    clear hg
    by_cases hlt : m < n
    · have hl1 : m < rs.length := by have := N.out; omega
      obtain ⟨ad, x, rfl, had, _, hxi, hc0⟩ := (h.below y (Nat.le_refl _)).el hl1
      have hx1 := HS1.out x (List.mem_of_getElem? hxi)
      have hx2 := HS.out m
      have e := catR_succ hxi
      have E := Lib.hid (show ((catR rs (m + 1)).length : Int) = (catR rs m).length + x.l.length by rw [e, List.length_append]; omega)
      obtain ⟨xA, xl, xc⟩ := x
      have r0 : wr.cell? (ad.add m) = some (.slice xA xl.length xc) := by have := hc0 0 _ rfl; rwa [add_zero', Nat.mul_one] at this
      have hbnd : ((catR rs m).length : Int) + (xl.length : Int) ≤ 1000000000000 := by have : m * 20000001 ≤ 1000 * 20000001 := Nat.mul_le_mul_right _ (by omega); simp only at hx1; omega
      generalize (catR rs m).length = S at *
      clear hc0 e hx1 hx2
      have hw1 : wrap64 ((S : Int) + (xl.length : Int)) = (S : Int) + (xl.length : Int) := by rw [← IntWalk.i64_left, IntWalk.i64_in _ (by omega)]
      have hw2 : IntKind.i64.wrap ((m:Int) + 1) = (m : Int) + 1 := IntWalk.i64_in _ (by omega)
      have hnn : ¬ ((S : Int) + (xl.length : Int) < 0) := by omega
      go_wp2_with (fail)
      go_roundg (n - (m + 1))
      case measure => have := HG.out; omega
      case rel => exact ⟨m + 1, by omega, rfl, by rw [E.out], by go_num, y⟩
    · have hmn : m = n := by omega
      subst hmn
      have hg0 := HS.out m
      have hbnd : (catR rs m).length ≤ 100000000000 := by have : m * 20000001 ≤ 1000 * 20000001 := Nat.mul_le_mul_right _ (by omega); omega
      have HB := Lib.hid hbnd
      clear hg0 hbnd
      go_wp2_with (go_at_call 107; refine Hid.out ?_)
      refine Lib.hid ?_
      refine (growOs_any (catR rs m).length _ HB.out).mono ?_
      rintro e w1 ⟨A1, k1, rfl, o1, y1⟩
      have Y := Lib.hid (ext_trans y y1)
      have O := Lib.hid (o1.base_le y.size)
      clear y1 o1 hlt
      go_wp2_with (fail)
      go_loopg [6, 27] m (fun g v iv wr => ∃ q : Nat, q ≤ m ∧ g = m - q ∧ iv = .int .i64 (q : Int) ∧ OwOs wr w.heap.size v (catR rs q) ∧ Below w.heap.size w wr)
      case atStart => exact ⟨0, by omega, rfl, rfl, O.out, Y.out⟩
      case round =>
        obtain ⟨q, hq, hg, rfl, ho, y2⟩ := hrel
        have HG2 := Lib.hid hg
        clear hg
        obtain ⟨Aq, cq, rfl, _, _⟩ := ho.form
        by_cases hlt : q < m
        · have hl1 : q < rs.length := by have := N.out; omega
          obtain ⟨ad, x, rfl, had, _, hxi, hc0⟩ := (h.below y2 (Nat.le_refl _)).el hl1
          have hx1 := HS1.out x (List.mem_of_getElem? hxi)
          have hx2 := HS.out q
          have hrx := (hr x (List.mem_of_getElem? hxi)).ext y2
          have e := Lib.hid (catR_succ hxi)
          have HO := Lib.hid ho
          obtain ⟨xA, xl, xc⟩ := x
          have r0 : wr.cell? (ad.add q) = some (.slice xA xl.length xc) := by have := hc0 0 _ rfl; rwa [add_zero', Nat.mul_one] at this
          have hw2 : IntKind.i64.wrap ((q:Int) + 1) = (q : Int) + 1 := IntWalk.i64_in _ (by omega)
          have hbnd := Lib.hid (show (catR rs q).length + xl.length ≤ 100000000000 by have : q * 20000001 ≤ 1000 * 20000001 := Nat.mul_le_mul_right _ (by omega); simp only at hx1; omega)
          clear hc0 hx1 hx2 ho
          go_wp2_with (at_builtin; refine app_os (m := xl) rfl (.tmp 31) (.tmp 32) rfl rfl (by exact HO.out) _ xA xc xl.length rfl rfl (by exact hrx) (by have := hbnd.out; omega) (by exact y2.size) ?_; intro v' w' hown' hgr hv')
          have s1 := below_app y2 y2.size HO.out (Nat.le_refl _) hgr
          go_wp2_with (fail)
          go_roundg (m - (q + 1))
          case measure => have := HG2.out; omega
          case rel => exact ⟨q + 1, by omega, rfl, by go_num, by rw [e.out]; exact hown', s1⟩
        · have hqm : q = m := by omega
          subst hqm
          have HO := Lib.hid ho
          clear ho
          go_wp2_with (fail)
          go_ret
          rw [HA.out] at *
          exact ⟨Aq, cq, rfl, HO.out, y2⟩
end Go.Proofs.YtipoeidmblnbbaaDoor
