/- The walks of patch.Less and its closures. -/
import Derived.Test.YtclfplpggmefjaaDoorDelLessPd
import Derived.Test.YtclfplpggmefjaaDoorPk2
import Derived.Test.YtclfplpggmefjaaDoorPk3
namespace Go.Proofs.YtclfplpggmefjaaDoor
open Go.RowKit
set_option linter.unusedVariables false
set_option linter.unusedSimpArgs false

theorem IdxOut.any {α : Type} {pr : α → Bool} {l : List α} {i : Int} (h : IdxOut pr l i) : decide (0 ≤ i) = l.any pr := by
  rcases h with ⟨rfl, h⟩ | ⟨j, rfl, hj, _, x, hx, hp⟩
  · have : l.any pr = false := List.any_eq_false.2 (fun x hx => by simp [h x hx])
    rw [this]; rfl
  · have : l.any pr = true := List.any_eq_true.2 ⟨x, List.mem_of_getElem? hx, hp⟩
    rw [this]
    simp

set_option maxHeartbeats 400000 in
theorem containsLess_any (b1 : Nat) (pr : Ch → Bool) (A : Option Addr) (n c : Nat) (l : List Ch) (w : World) (hn : n = l.length) (h : RdCh w w.heap.size A l) (hb : n ≤ 140737488355328)
    (hcl : ∀ (x1 x2 x3 x4 : Int) (x6 : Bool) (x5 : ByteArray) (w' : World), Below w.heap.size w w' → Calls Tryd.prog 72 #[.agg #[.int .i64 x1, .bool x6, .int .u8 x2, .int .i64 x3, .int .u64 x4, .string x5], .pointer (some ⟨b1, 0, none⟩)] w' fun e w'' => e = .returned (.bool (pr ⟨x1, x6, ⟨x2, x3, x4, x5⟩⟩)) ∧ Below w'.heap.size w' w'') :
    Calls Tryd.prog 71 #[.slice A n c, .func (.func 72) #[] #[.pointer (some ⟨b1, 0, none⟩)]] w fun e w' => e = .returned (.bool (l.any pr)) ∧ Below w.heap.size w w' := by
  have N := Lib.hid hn
  have HCL := Lib.hid hcl
  clear hn hcl
  generalize hr : l.any pr = r
  have HR := Lib.hid hr
  clear hr
  go_enter Tryd.func71, Tryd.ntmps71
  go_wp2_with (go_at_call 78; refine Hid.out ?_)
  refine Lib.hid ?_
  refine (indexLessIn_any b1 pr A n c l w N.out h hb HCL.out).mono ?_
  rintro e w1 ⟨i, rfl, hi, hb1⟩
  have hd := hi.any
  rw [HR.out] at hd
  clear hi
  go_wp2_with (fail)
  go_ret
  exact ⟨by first | rfl | exact ret_bool hd, hb1⟩

set_option maxHeartbeats 400000 in
theorem lessIn_cl (b : Nat) (ck k a n f : Int) (g : Bool) (s : ByteArray) (w : World) (hc : w.cell? ⟨b, 0, none⟩ = some (.int .i64 ck)) (hbl : b < w.heap.size) :
    Calls Tryd.prog 72 #[.agg #[.int .i64 k, .bool g, .int .u8 a, .int .i64 n, .int .u64 f, .string s], .pointer (some ⟨b, 0, none⟩)] w fun e w' => e = .returned (.bool (k == ck)) ∧ Below w.heap.size w w' := by
  have hne : ¬ b = w.heap.size := by omega
  go_enter Tryd.func72, Tryd.ntmps72
  go_wp2_with (go_quiet (fail))
  go_ret
  exact ⟨rfl, by first | exact ext_alloc w _ | exact below_drewN (ext_alloc w _) _ | exact ext_trans (ext_drew w _) (ext_alloc _ _)⟩

/-- has a patch the key? -/
def hasKey (q : List Ch) (k : Int) : Bool := q.any (fun d => d.key == k)
set_option maxHeartbeats 400000 in
theorem less_cl (b : Nat) (A2 : Option Addr) (n2 c2 : Nat) (q : List Ch) (k a n f : Int) (g : Bool) (s : ByteArray) (w : World) (hn : n2 = q.length) (hbq : n2 ≤ 140737488355328) (hc : w.cell? ⟨b, 0, none⟩ = some (.slice A2 n2 c2)) (hbl : b < w.heap.size) (h : RdCh w w.heap.size A2 q) :
    Calls Tryd.prog 70 #[.agg #[.int .i64 k, .bool g, .int .u8 a, .int .i64 n, .int .u64 f, .string s], .pointer (some ⟨b, 0, none⟩)] w fun e w' => e = .returned (.bool (hasKey q k)) ∧ Below w.heap.size w w' := by
  have hne : ¬ b = w.heap.size := by omega
  have N := Lib.hid hn
  clear hn
  go_enter Tryd.func70, Tryd.ntmps70
  go_wp2_with (go_at_call 71; refine Hid.out ?_)
  refine Lib.hid ?_
  have hbx := heap_alloc_new w (.cells #[.int .i64 k, .bool g, .int .u8 a, .int .i64 n, .int .u64 f, .string s] 58)
  have hsz := size_alloc' w (.cells #[.int .i64 k, .bool g, .int .u8 a, .int .i64 n, .int .u64 f, .string s] 58)
  refine (containsLess_any w.heap.size (fun d => d.key == k) A2 n2 c2 q _ N.out (h.ext (ext_alloc w _)) hbq ?_).mono ?_
  · intro x1 x2 x3 x4 x6 x5 w' hb'
    have hbx' := (hb'.block w.heap.size (by omega)).trans hbx
    exact lessIn_cl w.heap.size k x1 x2 x3 x4 x6 x5 w' (box_ch hbx').1 (blk_lt hbx')
  · rintro e w1 ⟨rfl, hb1⟩
    go_wp2_with (fail)
    go_ret
    exact ⟨rfl, ext_trans (ext_alloc w _) hb1⟩

def lessP (p q : List Ch) : List Ch := p.filter (fun c => !hasKey q c.key)

set_option maxHeartbeats 400000 in
theorem less_any (A1 A2 : Option Addr) (n1 n2 c1 c2 : Nat) (p q : List Ch) (w : World) (hn1 : n1 = p.length) (hn2 : n2 = q.length) (h1 : RdCh w w.heap.size A1 p) (h2 : RdCh w w.heap.size A2 q) (hb1 : n1 ≤ 100000000) (hb2 : n2 ≤ 100000000) :
    Calls Tryd.prog 45 #[.slice A1 n1 c1, .slice A2 n2 c2] w (NewCh (lessP p q) w) := by
  have N1 := Lib.hid hn1
  have N2 := Lib.hid hn2
  clear hn1 hn2
  go_enter Tryd.func45, Tryd.ntmps45
  go_wp2_with (go_at_call 63; refine Hid.out ?_)
  refine Lib.hid ?_
  have hbx := heap_alloc_new w (.cells #[.slice A2 n2 c2] 47)
  have y := ext_alloc w (.cells #[.slice A2 n2 c2] 47)
  have hsz := size_alloc' w (.cells #[.slice A2 n2 c2] 47)
  refine (cloneCh_any A1 n1 c1 p _ N1.out (h1.ext y) hb1).mono ?_
  rintro e w1 ⟨A, c, rfl, ho, hb⟩
  have N3 : Hid (n1 = p.length) := N1
  rw [← N1.out] at ho ⊢
  have hbx1 := (hb.block w.heap.size (by omega)).trans hbx
  have hbw := ext_trans y hb
  have r2 := h2.ext hbw
  have HBX := Lib.hid hbx1
  have hszb : w.heap.size < w1.heap.size := blk_lt hbx1
  have HB := Lib.hid hb
  have hsz1 : (w.alloc (.cells #[.slice A2 n2 c2] 47)).heap.size ≤ w1.heap.size := hb.size
  have HSZ := Lib.hid hsz
  have HSZ1 := Lib.hid hsz1
  clear hbx hbx1 hb y hsz hsz1
  go_wp2_with (go_at_call 62; refine Hid.out ?_)
  refine Lib.hid ?_
  refine (deleteLess_any w.heap.size (fun x => hasKey q x.key) A n1 c _ p w1 ho HSZ1.out hb1 N1.out ?_).mono ?_
  · intro x1 x2 x3 x4 x6 x5 w' hb'
    have hbx' := (hb'.block w.heap.size (by rw [← HSZ.out]; omega)).trans HBX.out
    have hc : w'.cell? ⟨w.heap.size, 0, none⟩ = some (.slice A2 n2 c2) := cell_of_one hbx'
    have hr : RdCh w' w'.heap.size A2 q := by
      have h3 : Below w.heap.size w w' := hbw.trans (hb'.mono (by rw [← HSZ.out]; omega))
      exact h2.ext h3
    exact less_cl w.heap.size A2 n2 c2 q x1 x2 x3 x4 x6 x5 w' N2.out (by omega) hc (blk_lt hbx') hr
  · rintro e w2 ⟨A', c', rfl, ho2, hb2⟩
    have hbase : w.heap.size ≤ (w.alloc (.cells #[.slice A2 n2 c2] 47)).heap.size := by rw [← HSZ.out]; omega
    have ho3 := ho2.base_le hbase
    have hbw2 := hbw.trans (hb2.mono hbase)
    have e : p.filter (fun x => !hasKey q x.key) = lessP p q := rfl
    rw [e] at ho3 ⊢
    generalize lessP p q = R at *
    go_wp2_with (fail)
    go_ret
    exact ⟨A', c', rfl, ho3, hbw2⟩

def Found06 (p : List Ch) (key : Int) (w : World) (e : Ending) (w' : World) : Prop :=
  ∃ x : Ch, e = .returned (.tuple #[.agg #[.int .i64 x.key, .bool x.gone, .int .u8 x.v.k, .int .i64 x.v.n, .int .u64 x.v.f, .string x.v.s], .bool (hasKey p key)]) ∧ Below w.heap.size w w'
set_option maxRecDepth 100000 in
set_option maxHeartbeats 800000 in
theorem find06_any (A : Option Addr) (n c : Nat) (p : List Ch) (key : Int) (w : World) (hn : n = p.length) (h : RdCh w w.heap.size A p) (hb : n ≤ 140737488355328) :
    Calls Tryd.prog 32 #[.slice A n c, .int .i64 key] w (Found06 p key w) := by
  have N := Lib.hid hn
  clear hn
  obtain ⟨R, hR⟩ : ∃ R, hasKey p key = R := ⟨_, rfl⟩
  have HR2 := Lib.hid hR
  have HR := Lib.hid hR
  clear hR
  go_enter Tryd.func32, Tryd.ntmps32
  go_wp2_with (fail)
  have hbx0 := heap_alloc_new w (.cells #[.int .i64 0, .bool false, .int .u8 0, .int .i64 0, .int .u64 0, .string ⟨#[]⟩] 58)
  have hbw0 := ext_alloc w (.cells #[.int .i64 0, .bool false, .int .u8 0, .int .i64 0, .int .u64 0, .string ⟨#[]⟩] 58)
  have hsz := size_alloc' w (.cells #[.int .i64 0, .bool false, .int .u8 0, .int .i64 0, .int .u64 0, .string ⟨#[]⟩] 58)
  generalize w.alloc _ = w0 at *
  have hlt0 : w.heap.size < w0.heap.size := by omega
  have HBX := Lib.hid hbx0
  clear hsz hbx0
  go_loopg [6] n (fun g iv wr => ∃ i : Nat, i ≤ n ∧ g = n - i ∧ iv = .int .i64 i ∧ w0 = wr ∧ Hid (hasKey (p.drop i) key = R))
  case atStart => exact ⟨0, by omega, rfl, rfl, rfl, Lib.hid (by rw [List.drop_zero]; exact HR.out)⟩
  case round =>
    obtain ⟨i, hi, hg, rfl, rfl, HI⟩ := hrel
    have HG := Lib.hid hg
    clear hg
    obtain ⟨b0, b1, b2, b3, b4, b5⟩ := box_ch HBX.out
    have hfr := box_free HBX.out
    obtain ⟨f0, f1, f2, f3, f4, f5⟩ : w0.frozen? ⟨w.heap.size, 0, none⟩ = false ∧ w0.frozen? ⟨w.heap.size, 1, none⟩ = false ∧ w0.frozen? ⟨w.heap.size, 2, none⟩ = false ∧ w0.frozen? ⟨w.heap.size, 3, none⟩ = false ∧ w0.frozen? ⟨w.heap.size, 4, none⟩ = false ∧ w0.frozen? ⟨w.heap.size, 5, none⟩ = false := ⟨hfr 0, hfr 1, hfr 2, hfr 3, hfr 4, hfr 5⟩
    clear hfr
    by_cases hlt : i < n
    · have hil : i < p.length := by have := N.out; omega
      obtain ⟨ad, x, rfl, _, hd, _, hc1⟩ := (h.below hbw0 (Nat.le_refl _)).el hil
      have HI' : Hid (((x.key == key) || hasKey (p.drop (i + 1)) key) = R) := Lib.hid (by rw [← HI.out, hd]; rfl)
      clear hd hil
      obtain ⟨x1, x6, x2, x3, x4, x5⟩ := x
      obtain ⟨r0, r1, r2, r3, r4, r5⟩ := ch_cells hc1
      clear hc1
      by_cases hk : (x1 == key) = true
      · go_wp2_with (fail)
        refine bodyPost_ret (v := .tuple #[.agg #[.int .i64 x1, .bool x6, .int .u8 x2, .int .i64 x3, .int .u64 x4, .string x5], .bool true]) (by simp [results, Tryd.results32, go_sem, b0, b1, b2, b3, b4, b5]) rfl ⟨⟨x1, x6, ⟨x2, x3, x4, x5⟩⟩, ?_, ?_⟩
        · have e : hasKey p key = true := by rw [HR2.out, ← HI'.out]; simp [hk]
          rw [e]
        · exact (((((hbw0.setCell (by simp) _).setCell (by simp) _).setCell (by simp) _).setCell (by simp) _).setCell (by simp) _).setCell (by simp) _
      · have hk' : (x1 == key) = false := by simpa using hk
        clear hk
        go_wp2_with (fail)
        go_roundg (n - (i + 1))
        case measure => have := HG.out; omega
        case rel => exact ⟨i + 1, by omega, rfl, by go_num, rfl, Lib.hid (by rw [← HI'.out]; simp [hk'])⟩
    · have e : R = false := by rw [← HI.out, List.drop_eq_nil_of_le (by have := N.out; omega)]; rfl
      have HE : Hid (hasKey p key = false) := Lib.hid (by rw [HR2.out]; exact e)
      clear e
      go_wp2_with (fail)
      refine bodyPost_ret (v := .tuple #[.agg #[.int .i64 0, .bool false, .int .u8 0, .int .i64 0, .int .u64 0, .string ⟨#[]⟩], .bool false]) (by simp [results, Tryd.results32, go_sem, b0, b1, b2, b3, b4, b5]) rfl ⟨⟨0, false, ⟨0, 0, 0, ⟨#[]⟩⟩⟩, ?_, ?_⟩
      · rw [HE.out]
      · exact (((((hbw0.setCell (by simp) _).setCell (by simp) _).setCell (by simp) _).setCell (by simp) _).setCell (by simp) _).setCell (by simp) _
end Go.Proofs.YtclfplpggmefjaaDoor
