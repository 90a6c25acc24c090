/- Merged texts: OpGreat, OpKnown, OpShut. -/
import Derived.Test.YtnhmbocgopjbjaaDoorPk16
import Derived.Test.YtnhmbocgopjbjaaDoorPk14
/- The walks of rubricref15.Size and rubriclaw15.great: they answer something and change nothing. -/
namespace Go.Proofs.YtnhmbocgopjbjaaDoor
open Go.RowKit
set_option linter.unusedVariables false
set_option linter.unusedSimpArgs false

set_option maxRecDepth 100000 in
set_option maxHeartbeats 1600000 in
theorem sizeX_any (A : Option Addr) (n c : Nat) (x : List OpS) (w : World) (hn : n = x.length) (h : RdOp w w.heap.size A x) (hb : n ≤ 140737488355328) (ho : ∀ o ∈ x, okOp o.o) :
    Calls Tryd.prog 43 #[.slice A n c] w fun e w' => ∃ v : Int, e = .returned (.int .i64 v) ∧ ∃ d, w' = w.drewN d := by
  have N := Lib.hid hn
  clear hn
  go_enter Tryd.func43, Tryd.ntmps43
  go_wp2_with (fail)
  go_loopg [3, 4] n (fun g av iv wr => ∃ (m : Nat) (a : Int), m ≤ n ∧ g = n - m ∧ av = .int .i64 a ∧ iv = .int .i64 (m : Int) ∧ ∃ d, wr = w.drewN d)
  case atStart => exact ⟨0, 0, by omega, rfl, rfl, rfl, 0, rfl⟩
  case round =>
    obtain ⟨m, a, hm, hg, rfl, rfl, d, rfl⟩ := hrel
    have HG := Lib.hid hg
    clear hg
    by_cases hlt : m < n
    · have hl1 : m < x.length := by have := N.out; omega
      obtain ⟨ad, o, had0, had, hd1, hx1, hc0⟩ := h.1.el hl1
      subst had0
      have hmem := List.mem_of_getElem? hx1
      obtain ⟨q1, q2, q3, q4, q5⟩ := ho o hmem
      obtain ⟨g1, g2, g3⟩ := h.2 o hmem
      obtain ⟨⟨k, nn, r, s, p⟩, Ar, cr, As, cs, Ap, cp⟩ := o
      simp only at g1 g2 g3 q3 q4 q5
      obtain ⟨r0, r1, r2, r3, r4⟩ := op_cells hc0
      obtain ⟨ns, hns⟩ : ∃ X, s.length = X := ⟨_, rfl⟩
      obtain ⟨np, hnp⟩ : ∃ X, p.length = X := ⟨_, rfl⟩
      have NS := Lib.hid hns
      have NP := Lib.hid hnp
      rw [hns] at r3 q4
      rw [hnp] at r4 q5
      have hw2 : IntKind.i64.wrap ((m:Int) + 1) = (m : Int) + 1 := IntWalk.i64_in _ (by omega)
      clear hc0 hd1 hx1 hmem hns hnp
      go_wp2_with (fail)
      go_quiet (fail)
      go_wp2_with (fail)
      go_loopg [3, 5] ns (fun g av iv wi => ∃ (j : Nat) (b : Int), j ≤ ns ∧ g = ns - j ∧ av = .int .i64 b ∧ iv = .int .i64 (j : Int) ∧ ∃ d, wi = w.drewN d)
      case atStart => exact ⟨0, _, by omega, rfl, rfl, rfl, _, (by first | rfl | exact World.drewN_drewN _ _ _)⟩
      case round =>
        obtain ⟨j, b, hj, hg2, rfl, rfl, d2, rfl⟩ := hrel
        have HG2 := Lib.hid hg2
        clear hg2
        by_cases hls : j < ns
        · obtain ⟨ad2, z, e2, _, _, _, hz⟩ := g2.el (i := j) (by have := NS.out; omega)
          subst e2
          obtain ⟨z1, z2, z3, z4, z5⟩ := z
          obtain ⟨s0, s1, s2, s3, s4⟩ := at_cells hz
          have hw3 : IntKind.i64.wrap ((j:Int) + 1) = (j : Int) + 1 := IntWalk.i64_in _ (by omega)
          clear hz
          go_wp2_with (fail)
          go_roundg (ns - (j + 1))
          case measure => have := HG2.out; omega
          case rel => exact ⟨j + 1, _, by omega, rfl, rfl, by go_num, _, rfl⟩
        · go_wp2_with (fail)
          go_loopg [3, 6] np (fun g av iv wi => ∃ (j : Nat) (b : Int), j ≤ np ∧ g = np - j ∧ av = .int .i64 b ∧ iv = .int .i64 (j : Int) ∧ ∃ d, wi = w.drewN d)
          case atStart => exact ⟨0, _, by omega, rfl, rfl, rfl, _, rfl⟩
          case round =>
            obtain ⟨t, b, ht, hg2, rfl, rfl, d2, rfl⟩ := hrel
            have HG3 := Lib.hid hg2
            clear hg2
            by_cases hls : t < np
            · obtain ⟨ad2, z, e2, _, _, _, hz⟩ := g3.el (i := t) (by have := NP.out; omega)
              subst e2
              obtain ⟨z1, z6, z2, z3, z4, z5⟩ := z
              obtain ⟨s0, s1, s2, s3, s4, s5⟩ := ch_cells hz
              have hw3 : IntKind.i64.wrap ((t:Int) + 1) = (t : Int) + 1 := IntWalk.i64_in _ (by omega)
              clear hz
              go_wp2_with (fail)
              go_roundg (np - (t + 1))
              case measure => have := HG3.out; omega
              case rel => exact ⟨t + 1, _, by omega, rfl, rfl, by go_num, _, rfl⟩
            · go_wp2_with (fail)
              go_roundg (n - (m + 1))
              case measure => have := HG.out; omega
              case rel => exact ⟨m + 1, _, by omega, rfl, rfl, by go_num, _, rfl⟩
    · go_wp2_with (fail)
      go_ret
      exact ⟨_, rfl, _, rfl⟩

structure SX where
  A : Option Addr
  c : Nat
  l : List OpS
def SX.enc (s : SX) : List Value := [.slice s.A s.l.length s.c]
set_option maxRecDepth 100000 in
set_option maxHeartbeats 1600000 in
theorem great15_any (Ak A : Option Addr) (nk ck n c : Nat) (xs : List SX) (w : World) (hn : n = xs.length) (hk : nk ≤ 9223372036854775807) (h : Rd SX.enc 1 w w.heap.size A xs) (hs : ∀ s ∈ xs, RdOp w w.heap.size s.A s.l ∧ s.l.length ≤ 140737488355328 ∧ ∀ o ∈ s.l, okOp o.o) (hb : n ≤ 140737488355328) :
    Calls Tryd.prog 10 #[.slice Ak nk ck, .slice A n c] w fun e w' => ∃ b : Bool, e = .returned (.bool b) ∧ (b = false → nk ≤ 64) ∧ ∃ d, w' = w.drewN d := by
  have N := Lib.hid hn
  have HS := Lib.hid hs
  have hw0 : IntKind.i64.wrap ((nk : Int) - 64) = (nk : Int) - 64 := IntWalk.i64_in _ (by omega)
  clear hn hs
  by_cases h64 : (0 : Int) < (nk : Int) - 64
  · go_enter Tryd.func10, Tryd.ntmps10
    go_wp2_with (fail)
    go_ret
    exact ⟨true, rfl, (by intro h; cases h), 0, rfl⟩
  have hk64 : nk ≤ 64 := by omega
  go_enter Tryd.func10, Tryd.ntmps10
  go_wp2_with (fail)
  go_loopg [5, 14] n (fun g av iv wr => ∃ (m : Nat) (a : Int), m ≤ n ∧ g = n - m ∧ av = .int .i64 a ∧ iv = .int .i64 (m : Int) ∧ ∃ d, wr = w.drewN d)
  case atStart => exact ⟨0, 0, by omega, rfl, rfl, rfl, 0, rfl⟩
  case round =>
    obtain ⟨m, a, hm, hg, rfl, rfl, d, rfl⟩ := hrel
    have HG := Lib.hid hg
    clear hg
    by_cases hlt : m < n
    · obtain ⟨ad, z, had0, had, _, hx1, hc0⟩ := h.el (i := m) (by have := N.out; omega)
      subst had0
      obtain ⟨f1, f2, f3⟩ := HS.out z (List.mem_of_getElem? hx1)
      obtain ⟨A3, c3, x⟩ := z
      simp only at f1 f2 f3
      have q0 : _ = some (Value.slice A3 x.length c3) := hc0 0 _ rfl
      rw [add_zero', Nat.mul_one] at q0
      obtain ⟨n3, hn3⟩ : ∃ n3, n3 = x.length := ⟨_, rfl⟩
      rw [← hn3] at q0 f2
      have N3 := Lib.hid hn3
      have hw2 : IntKind.i64.wrap ((m:Int) + 1) = (m : Int) + 1 := IntWalk.i64_in _ (by omega)
      clear hn3 hx1 hc0
      go_wp2_with (go_at_call 43; refine Hid.out ?_)
      refine Lib.hid ?_
      refine (sizeX_any A3 n3 c3 x (w.drewN d) N3.out f1 f2 f3).mono ?_
      rintro e w2 ⟨v, rfl, d2, rfl⟩
      go_wp2_with (fail)
      go_roundg (n - (m + 1))
      case measure => have := HG.out; omega
      case rel => exact ⟨m + 1, _, by omega, rfl, rfl, by go_num, _, rfl⟩
    · go_wp2_with (fail)
      go_ret
      exact ⟨_, rfl, fun _ => hk64, _, rfl⟩
end Go.Proofs.YtnhmbocgopjbjaaDoor
/- The walk of rubriclaw15.known. -/
namespace Go.Proofs.YtnhmbocgopjbjaaDoor
open Go.RowKit
set_option linter.unusedVariables false
set_option linter.unusedSimpArgs false

def kK : List Ky := [⟨1, false, 1, false, false, 0⟩]
theorem rd_ops (u : World) (l : List OpS) (hs : Sub u u.heap.size l) {cs : Array Value} (hc : cs.toList = l.flatMap OpS.enc) {b : Nat} (hb : b = u.heap.size) :
    RdOp (u.alloc (.cells cs 41)) (u.alloc (.cells cs 41)).heap.size (some ⟨b, 0, none⟩) l :=
  ⟨Rd.new (enc := OpS.enc) (size := 5) OpS.enc_len u 41 l hc hb, hs.ext (ext_alloc u _)⟩
theorem ok_small (o : Opd) (h1 : o.s = []) (h2 : o.p = []) (h3 : o.r.length ≤ 10) : okOp o := by
  refine ⟨?_, ?_, by omega, by rw [h1]; simp, by rw [h2]; simp⟩
  · rw [h1]; intro c hc; cases hc
  · rw [h2]; intro c hc; cases hc
theorem sub_plain {u : World} {B : Nat} {k n : Int} : Sub u B [(⟨⟨k, n, [], [], []⟩, none, 0, none, 0, none, 0⟩ : OpS)] := by
  intro x hx
  simp at hx; subst hx
  exact ⟨Rd.nil, Rd.nil, Rd.nil⟩
theorem sub_cons {u : World} {B : Nat} {x : OpS} {l : List OpS} (h : Sub u B [x]) (h2 : Sub u B l) : Sub u B (x :: l) := by
  intro z hz
  rcases List.mem_cons.1 hz with rfl | hz
  · exact h z (by simp)
  · exact h2 z hz
set_option maxRecDepth 100000 in
set_option maxHeartbeats 3200000 in
theorem known15_any (w : World) (hT : Lib.Utf8Tabs 1 2 w) :
    Calls Tryd.prog 11 #[] w fun e w' => e = .returned (.bool true) ∧ Below w.heap.size w w' := by
  go_enter Tryd.func11, Tryd.ntmps11
  go_wp2_with (go_at_call 12; refine Hid.out ?_)
  refine Lib.hid ?_
  have y := ext_alloc w (.cells #[.int .i64 1, .bool false, .int .u8 1, .bool false, .bool false, .int .i64 0] 76)
  have rk : RdKy _ _ _ kK := Rd.new (enc := Ky.enc) (size := 6) Ky.enc_len w 76 kK (cs := #[.int .i64 1, .bool false, .int .u8 1, .bool false, .bool false, .int .i64 0]) rfl rfl
  refine (new_any (some ⟨w.heap.size, 0, none⟩) 1 1 kK _ rfl rk (by omega)).mono ?_
  rintro e v1 ⟨y1, ⟨hm, s, rfl, hS⟩ | ⟨hm, rfl⟩⟩
  rotate_left
  · have : mayKs kK = true := by decide +kernel
    rw [this] at hm; cases hm
  clear hm rk
  replace y := ext_trans y y1
  clear y1
  go_wp2_with (go_at_call 13; refine Hid.out ?_)
  refine Lib.hid ?_
  have ya := ext_alloc v1 (.cells #[.int .i32 97] 21)
  have ra : RdI32 (v1.alloc (.cells #[.int .i32 97] 21)) (v1.alloc (.cells #[.int .i32 97] 21)).heap.size (some ⟨v1.heap.size, 0, none⟩) [97] := Rd.new (enc := encI32) (size := 1) encI32_len v1 21 [97] (cs := #[.int .i32 97]) rfl rfl
  have z1 : (v1.alloc (.cells #[.int .i32 97] 21)).heap.size = v1.heap.size + 1 := by simp
  generalize v1.alloc (.cells #[.int .i32 97] 21) = u1 at *
  have y2 := ext_alloc u1 (.cells #[.int .u8 2, .int .i64 0, .slice (some ⟨v1.heap.size, 0, none⟩) 1 1, .slice none 0 0, .slice none 0 0] 41)
  have b2 := heap_alloc_new u1 (.cells #[.int .u8 2, .int .i64 0, .slice (some ⟨v1.heap.size, 0, none⟩) 1 1, .slice none 0 0, .slice none 0 0] 41)
  have z2 : (u1.alloc (.cells #[.int .u8 2, .int .i64 0, .slice (some ⟨v1.heap.size, 0, none⟩) 1 1, .slice none 0 0, .slice none 0 0] 41)).heap.size = v1.heap.size + 2 := by rw [World.size_alloc, z1]
  rw [z1] at b2
  generalize u1.alloc (.cells #[.int .u8 2, .int .i64 0, .slice (some ⟨v1.heap.size, 0, none⟩) 1 1, .slice none 0 0, .slice none 0 0] 41) = u2 at *
  have y3 := ext_alloc u2 (.cells #[.int .u8 1, .int .i64 2, .slice none 0 0, .slice none 0 0, .slice none 0 0] 41)
  have b3 := heap_alloc_new u2 (.cells #[.int .u8 1, .int .i64 2, .slice none 0 0, .slice none 0 0, .slice none 0 0] 41)
  have z3 : (u2.alloc (.cells #[.int .u8 1, .int .i64 2, .slice none 0 0, .slice none 0 0, .slice none 0 0] 41)).heap.size = v1.heap.size + 3 := by rw [World.size_alloc, z2]
  rw [z2] at b3
  generalize u2.alloc (.cells #[.int .u8 1, .int .i64 2, .slice none 0 0, .slice none 0 0, .slice none 0 0] 41) = u3 at *
  have y4 := ext_alloc u3 (.cells #[.int .u8 1, .int .i64 3, .slice none 0 0, .slice none 0 0, .slice none 0 0] 41)
  have b4 := heap_alloc_new u3 (.cells #[.int .u8 1, .int .i64 3, .slice none 0 0, .slice none 0 0, .slice none 0 0] 41)
  have z4 : (u3.alloc (.cells #[.int .u8 1, .int .i64 3, .slice none 0 0, .slice none 0 0, .slice none 0 0] 41)).heap.size = v1.heap.size + 4 := by rw [World.size_alloc, z3]
  rw [z3] at b4
  generalize u3.alloc (.cells #[.int .u8 1, .int .i64 3, .slice none 0 0, .slice none 0 0, .slice none 0 0] 41) = u4 at *
  have SA : Hid (Sub u4 u4.heap.size [(⟨⟨2, 0, [97], [], []⟩, some ⟨v1.heap.size, 0, none⟩, 1, none, 0, none, 0⟩ : OpS)]) := Lib.hid (by
    intro x hx
    simp at hx; subst hx
    exact ⟨ra.ext (ext_trans y2 (ext_trans y3 y4)), Rd.nil, Rd.nil⟩)
  have hba := (y4.block _ (lt_of_some ((y3.block _ (lt_of_some b2)).trans b2))).trans ((y3.block _ (lt_of_some b2)).trans b2)
  have hbb := (y4.block _ (lt_of_some b3)).trans b3
  have BA := Lib.hid hba
  have BB := Lib.hid hbb
  have BC := Lib.hid b4
  have HS := Lib.hid (hS.ext (ext_trans ya (ext_trans y2 (ext_trans y3 y4))))
  replace y := ext_trans y (ext_trans ya (ext_trans y2 (ext_trans y3 y4)))
  clear ya y2 y3 y4 b2 b3 b4 hba hbb ra z1 z2 z3 hS
  have yl := ext_alloc u4 (.cells #[.int .u8 1, .int .i64 2, .slice none 0 0, .slice none 0 0, .slice none 0 0, .int .u8 2, .int .i64 0, .slice (some ⟨v1.heap.size, 0, none⟩) 1 1, .slice none 0 0, .slice none 0 0] 41)
  have rl := rd_ops u4 [(⟨⟨1, 2, [], [], []⟩, none, 0, none, 0, none, 0⟩ : OpS), (⟨⟨2, 0, [97], [], []⟩, some ⟨v1.heap.size, 0, none⟩, 1, none, 0, none, 0⟩ : OpS)] (sub_cons sub_plain SA.out) (cs := #[.int .u8 1, .int .i64 2, .slice none 0 0, .slice none 0 0, .slice none 0 0, .int .u8 2, .int .i64 0, .slice (some ⟨v1.heap.size, 0, none⟩) 1 1, .slice none 0 0, .slice none 0 0]) rfl (b := u4.heap.size) rfl
  have hv : fitsO kK [(⟨⟨1, 2, [], [], []⟩, none, 0, none, 0, none, 0⟩ : OpS), (⟨⟨2, 0, [97], [], []⟩, some ⟨v1.heap.size, 0, none⟩, 1, none, 0, none, 0⟩ : OpS)] 3 4 = 0 := by kernel_rfl
  have HV := Lib.hid hv
  clear hv
  rw [z4] at rl
  refine (fitsO_any s kK _ 2 2 _ 3 4 _ rfl rl (by omega) (HS.out.ext yl) (by intro o ho; simp only [List.mem_cons, List.not_mem_nil, or_false] at ho; rcases ho with rfl | rfl <;> exact ok_small _ rfl rfl (by simp)) (Utf8Tabs_below hT (ext_trans y yl))).mono ?_
  rintro e u5 ⟨rfl, yr⟩
  rw [HV.out]
  have yy := ext_trans yl yr
  have SA := Lib.hid (SA.out.ext yy)
  have BA := Lib.hid ((yy.block _ (lt_of_some BA.out)).trans BA.out)
  have BB := Lib.hid ((yy.block _ (lt_of_some BB.out)).trans BB.out)
  have BC := Lib.hid ((yy.block _ (lt_of_some BC.out)).trans BC.out)
  have HS := Lib.hid (HS.out.ext yy)
  replace y := ext_trans y yy
  clear yl rl yr yy z4
  obtain ⟨a0, a1, a2, a3, a4⟩ := box_at BA.out
  obtain ⟨c0, c1, c2, c3, c4⟩ := box_at BB.out
  obtain ⟨d0, d1, d2, d3, d4⟩ := box_at BC.out
  go_wp2_with (go_at_call 13; refine Hid.out ?_)
  refine Lib.hid ?_
  clear a0 a1 a2 a3 a4 c0 c1 c2 c3 c4 d0 d1 d2 d3 d4
  have yl := ext_alloc u5 (.cells #[.int .u8 1, .int .i64 3, .slice none 0 0, .slice none 0 0, .slice none 0 0, .int .u8 2, .int .i64 0, .slice (some ⟨v1.heap.size, 0, none⟩) 1 1, .slice none 0 0, .slice none 0 0] 41)
  have rl := rd_ops u5 [(⟨⟨1, 3, [], [], []⟩, none, 0, none, 0, none, 0⟩ : OpS), (⟨⟨2, 0, [97], [], []⟩, some ⟨v1.heap.size, 0, none⟩, 1, none, 0, none, 0⟩ : OpS)] (sub_cons sub_plain SA.out) (cs := #[.int .u8 1, .int .i64 3, .slice none 0 0, .slice none 0 0, .slice none 0 0, .int .u8 2, .int .i64 0, .slice (some ⟨v1.heap.size, 0, none⟩) 1 1, .slice none 0 0, .slice none 0 0]) rfl (b := u5.heap.size) rfl
  have hv : fitsO kK [(⟨⟨1, 3, [], [], []⟩, none, 0, none, 0, none, 0⟩ : OpS), (⟨⟨2, 0, [97], [], []⟩, some ⟨v1.heap.size, 0, none⟩, 1, none, 0, none, 0⟩ : OpS)] 3 4 = 6 := by kernel_rfl
  have HV := Lib.hid hv
  clear hv
  refine (fitsO_any s kK _ 2 2 _ 3 4 _ rfl rl (by omega) (HS.out.ext yl) (by intro o ho; simp only [List.mem_cons, List.not_mem_nil, or_false] at ho; rcases ho with rfl | rfl <;> exact ok_small _ rfl rfl (by simp)) (Utf8Tabs_below hT (ext_trans y yl))).mono ?_
  rintro e u6 ⟨rfl, yr⟩
  rw [HV.out]
  have yy := ext_trans yl yr
  have SA := Lib.hid (SA.out.ext yy)
  have BA := Lib.hid ((yy.block _ (lt_of_some BA.out)).trans BA.out)
  have BB := Lib.hid ((yy.block _ (lt_of_some BB.out)).trans BB.out)
  have BC := Lib.hid ((yy.block _ (lt_of_some BC.out)).trans BC.out)
  have HS := Lib.hid (HS.out.ext yy)
  replace y := ext_trans y yy
  clear yl rl yr yy
  obtain ⟨a0, a1, a2, a3, a4⟩ := box_at BA.out
  obtain ⟨c0, c1, c2, c3, c4⟩ := box_at BB.out
  obtain ⟨d0, d1, d2, d3, d4⟩ := box_at BC.out
  go_wp2_with (go_at_call 13; refine Hid.out ?_)
  refine Lib.hid ?_
  clear a0 a1 a2 a3 a4 c0 c1 c2 c3 c4 d0 d1 d2 d3 d4
  have yl := ext_alloc u6 (.cells #[.int .u8 2, .int .i64 0, .slice (some ⟨v1.heap.size, 0, none⟩) 1 1, .slice none 0 0, .slice none 0 0, .int .u8 2, .int .i64 0, .slice (some ⟨v1.heap.size, 0, none⟩) 1 1, .slice none 0 0, .slice none 0 0] 41)
  have rl := rd_ops u6 [(⟨⟨2, 0, [97], [], []⟩, some ⟨v1.heap.size, 0, none⟩, 1, none, 0, none, 0⟩ : OpS), (⟨⟨2, 0, [97], [], []⟩, some ⟨v1.heap.size, 0, none⟩, 1, none, 0, none, 0⟩ : OpS)] (sub_cons SA.out SA.out) (cs := #[.int .u8 2, .int .i64 0, .slice (some ⟨v1.heap.size, 0, none⟩) 1 1, .slice none 0 0, .slice none 0 0, .int .u8 2, .int .i64 0, .slice (some ⟨v1.heap.size, 0, none⟩) 1 1, .slice none 0 0, .slice none 0 0]) rfl (b := u6.heap.size) rfl
  have hv : fitsO kK [(⟨⟨2, 0, [97], [], []⟩, some ⟨v1.heap.size, 0, none⟩, 1, none, 0, none, 0⟩ : OpS), (⟨⟨2, 0, [97], [], []⟩, some ⟨v1.heap.size, 0, none⟩, 1, none, 0, none, 0⟩ : OpS)] 3 4 = 8 := by kernel_rfl
  have HV := Lib.hid hv
  clear hv
  refine (fitsO_any s kK _ 2 2 _ 3 4 _ rfl rl (by omega) (HS.out.ext yl) (by intro o ho; simp only [List.mem_cons, List.not_mem_nil, or_false] at ho; rcases ho with rfl | rfl <;> exact ok_small _ rfl rfl (by simp)) (Utf8Tabs_below hT (ext_trans y yl))).mono ?_
  rintro e u7 ⟨rfl, yr⟩
  rw [HV.out]
  have yy := ext_trans yl yr
  have SA := Lib.hid (SA.out.ext yy)
  have BA := Lib.hid ((yy.block _ (lt_of_some BA.out)).trans BA.out)
  have BB := Lib.hid ((yy.block _ (lt_of_some BB.out)).trans BB.out)
  have BC := Lib.hid ((yy.block _ (lt_of_some BC.out)).trans BC.out)
  have HS := Lib.hid (HS.out.ext yy)
  replace y := ext_trans y yy
  clear yl rl yr yy
  go_wp2_with (go_at_call 16; refine Hid.out ?_)
  refine Lib.hid ?_
  have yl := ext_alloc u7 (.cells #[.int .u8 0, .int .i64 0, .slice none 0 0, .slice none 0 0, .slice none 0 0] 41)
  have rl := rd_ops u7 [(⟨⟨0, 0, [], [], []⟩, none, 0, none, 0, none, 0⟩ : OpS)] sub_plain (cs := #[.int .u8 0, .int .i64 0, .slice none 0 0, .slice none 0 0, .slice none 0 0]) rfl (b := u7.heap.size) rfl
  have hv : mayO kK [(⟨⟨0, 0, [], [], []⟩, none, 0, none, 0, none, 0⟩ : OpS)] = 3 := by kernel_rfl
  have HV := Lib.hid hv
  clear hv
  refine (mayO_any s kK _ 1 1 _ _ rfl rl (by omega) (HS.out.ext yl) (by intro o ho; simp only [List.mem_cons, List.not_mem_nil, or_false] at ho; rcases ho with rfl; exact ok_small _ rfl rfl (by simp)) (Utf8Tabs_below hT (ext_trans y yl))).mono ?_
  rintro e u8 ⟨rfl, yr⟩
  rw [HV.out]
  replace y := ext_trans y (ext_trans yl yr)
  go_wp2_with (fail)
  go_ret
  exact ⟨rfl, y⟩
end Go.Proofs.YtnhmbocgopjbjaaDoor
/- A slice of ops opened: each op's parts as lists, with the bounds of the bulk. -/
namespace Go.Proofs.YtnhmbocgopjbjaaDoor
open Go.ChangeShapes Go.WideShapes Go.ChangeAt Go.RowKit Go.Deep
set_option linter.unusedVariables false
set_option linter.constructorNameAsVariable false
set_option maxRecDepth 20000

/-- a slice's cell as a list, whatever the reader of one element -/
theorem open_listT {α : Type} {enc' : α → List Value} {size : Nat} {H : Type} {enc : TypeId × Value → H} {W : World} {base : Nat} {spare : Nat → Bool} {held : Bool} {t e : TypeId} {fuel0 : Nat} {cs0 : List Value} {x0 : DataW H × List MemPlace} (Pr : α → DataW H → Prop)
    (ht : Tryd.prog.underlying t = some (.slice e)) (hC : Tryd.prog.cellsOf e = size) (hz : ∀ a, (enc' a).length = size) (hpos : 0 < size)
    (hread : ∀ {fuel : Nat} {cs : List Value} {x : DataW H × List MemPlace}, DataW.trod enc Tryd.prog W base spare held fuel e cs = some x → ∃ a : α, cs = enc' a ∧ Pr a x.1)
    (hf : DataW.trod enc Tryd.prog W base spare held fuel0 t cs0 = some x0) :
    ∃ (A : Option Addr) (n c : Nat) (l : List α), cs0 = [.slice A n c] ∧ n = l.length ∧ n ≤ c ∧ c ≤ maxLen ∧ Rd enc' size W W.heap.size A l ∧ n + 1 ≤ Rows.uptoBulk x0.1 ∧ ∀ a ∈ l, ∃ d', Pr a d' ∧ Rows.uptoBulk d' ≤ Rows.uptoBulk x0.1 := by
  rcases open_slice ht hf with ⟨hcs, hx⟩ | ⟨a, len, cap, m, k, D, Pl, hcs, _, hl, hm, hmm, hx, hi⟩
  · exact ⟨none, 0, 0, [], hcs, rfl, Nat.le_refl _, Nat.zero_le _, Rd.nil, bulk_one _, fun a ha => by cases ha⟩
  · have hlm : len ≤ m := by rw [hmm]; split <;> omega
    have hd : x0.1 = .slice ((List.range len).map D) ((List.range (m - len)).map fun j => D (len + j)) := by have := congrArg Prod.fst hx; simpa using this
    have hbulk : ∀ i, i < len → Rows.uptoBulk (D i) ≤ Rows.uptoBulk x0.1 := by
      intro i hil
      have h1 := bulk_mem (d := D i) (l := (List.range len).map D) (List.mem_map.2 ⟨i, List.mem_range.2 hil, rfl⟩)
      rw [hd]
      simp only [Rows.uptoBulk]
      omega
    have hlen1 : len + 1 ≤ Rows.uptoBulk x0.1 := by
      have h1 := bulk_len ((List.range len).map D)
      rw [List.length_map, List.length_range] at h1
      rw [hd]
      simp only [Rows.uptoBulk]
      omega
    have hall : ∀ i, i < len → ∃ y : α, CellsAt W (a.add (i * size)) (enc' y) ∧ Pr y (D i) := by
      intro i hil
      obtain ⟨cs', hc, htr⟩ := hi i (by omega)
      obtain ⟨y, rfl, hp⟩ := hread htr
      refine ⟨y, fun j u hu => ?_, hp⟩
      rw [hC] at hc
      obtain ⟨_, hcl, hat⟩ := World.cells?_some hc
      have hj : j < size := by rw [← hz y]; exact (List.getElem?_eq_some_iff.1 hu).1
      rw [hat j hj]; exact hu
    have hl : ∀ k, k ≤ len → ∃ l : List α, l.length = k ∧ (∀ i (h : i < l.length), CellsAt W (a.add (i * size)) (enc' l[i])) ∧ ∀ y ∈ l, ∃ d', Pr y d' ∧ Rows.uptoBulk d' ≤ Rows.uptoBulk x0.1 := by
      intro k
      induction k with
      | zero => intro _; exact ⟨[], rfl, fun i h => by simp at h, fun y hy => by cases hy⟩
      | succ k ih =>
        intro hk
        obtain ⟨l, hll, hlc, hlp⟩ := ih (by omega)
        obtain ⟨y, hy, hyp⟩ := hall k (by omega)
        refine ⟨l ++ [y], by simp [hll], fun i h => ?_, fun z hz => ?_⟩
        · rw [List.getElem_append]
          split
          · exact hlc i _
          · have hik : i = k := by simp at h; omega
            subst hik
            simpa [hll] using hy
        · rcases List.mem_append.1 hz with h1 | h1
          · exact hlp z h1
          · simp at h1; subst h1; exact ⟨_, hyp, hbulk k (by omega)⟩
    obtain ⟨l, hll, hlc, hlp⟩ := hl len (Nat.le_refl _)
    refine ⟨some a, len, cap, l, hcs, hll.symm, by assumption, by assumption, fun hpl => ⟨a, rfl, ?_, hlc⟩, hlen1, hlp⟩
    have hc0 := hlc 0 hpl
    have hlen0 : 0 < (enc' l[0]).length := by rw [hz]; exact hpos
    have hcell := hc0 0 _ (List.getElem?_eq_getElem hlen0)
    rw [add_zero', Nat.zero_mul, add_zero'] at hcell
    unfold World.cell? at hcell
    cases hb : W.heap[a.block]? with
    | none => rw [hb] at hcell; simp at hcell
    | some o => exact blk_lt hb

theorem Tryd.qOp : Tryd.prog.underlying 41 = some (.struct (Tryd.prog.fieldsOf 41)) := by kernel_rfl
theorem Tryd.qfOp : (Tryd.prog.fieldsOf 41).toList.map (fun f => (f.type, f.offset)) = [(5, 0), (3, 1), (37, 2), (38, 3), (39, 4)] := by kernel_rfl
theorem Tryd.qcOp : Tryd.prog.cellsOf 41 = 5 := by kernel_rfl
theorem Tryd.qcSR : Tryd.prog.cellsOf 37 = 1 := by kernel_rfl
theorem Tryd.qcSA : Tryd.prog.cellsOf 38 = 1 := by kernel_rfl
theorem Tryd.qcSC : Tryd.prog.cellsOf 39 = 1 := by kernel_rfl
theorem Tryd.qslOp : Tryd.prog.underlying 23 = some (.slice 41) := by kernel_rfl

section
variable {H : Type} {enc : TypeId × Value → H} {w : World} {base : Nat} {spare : Nat → Bool} {held : Bool} {fuel : Nat} {cs : List Value} {x : DataW H × List MemPlace}
theorem read_i32d (h : DataW.trod enc Tryd.prog w base spare held fuel 21 cs = some x) : ∃ a : Int, cs = encI32 a ∧ True := by
  obtain ⟨a, ha, _, _⟩ := DataW.trod_int Tryd.uI32 h
  exact ⟨a, ha, trivial⟩
/-- what an op's datum says of it -/
def opPr {H : Type} (w : World) (o : OpS) (d : DataW H) : Prop :=
  (RdI32 w w.heap.size o.Ar o.o.r ∧ RdAt w w.heap.size o.As o.o.s ∧ RdCh w w.heap.size o.Ap o.o.p) ∧ (Rows.uptoBulk d ≤ 100000000 → okOp o.o)
set_option maxHeartbeats 800000 in
theorem read_opd (h : DataW.trod enc Tryd.prog w base spare held fuel 41 cs = some x) : ∃ o : OpS, cs = OpS.enc o ∧ opPr w o x.1 := by
  obtain ⟨xs, n, _, hx, hlen, hxl, hf⟩ := DataW.trod_struct Tryd.qOp h
  obtain ⟨f0, e0, t0, o0⟩ := field_at Tryd.qfOp (i := 0) rfl
  obtain ⟨f1, e1, t1, o1⟩ := field_at Tryd.qfOp (i := 1) rfl
  obtain ⟨f2, e2, t2, o2⟩ := field_at Tryd.qfOp (i := 2) rfl
  obtain ⟨f3, e3, t3, o3⟩ := field_at Tryd.qfOp (i := 3) rfl
  obtain ⟨f4, e4, t4, o4⟩ := field_at Tryd.qfOp (i := 4) rfl
  have hsz : (Tryd.prog.fieldsOf 41).size = 5 := by kernel_rfl
  have h0 := hf 0 f0 e0
  have h1 := hf 1 f1 e1
  have h2 := hf 2 f2 e2
  have h3 := hf 3 f3 e3
  have h4 := hf 4 f4 e4
  rw [t0, o0, Tryd.qcU8] at h0
  rw [t1, o1, Tryd.qcInt] at h1
  rw [t2, o2, Tryd.qcSR] at h2
  rw [t3, o3, Tryd.qcSA] at h3
  rw [t4, o4, Tryd.qcSC] at h4
  rw [Tryd.qcOp] at hlen
  rw [hsz] at hxl
  match cs, hlen, xs, hxl with
  | [c0, c1, c2, c3, c4], _, [y0, y1, y2, y3, y4], _ =>
    obtain ⟨a, ha, _, wa⟩ := DataW.trod_int Tryd.qU8 (x := y0) (by simpa using h0)
    obtain ⟨b, hb, _, wb⟩ := DataW.trod_int Tryd.qInt (x := y1) (by simpa using h1)
    obtain ⟨A2, n2, k2, r, hr, m2, _, _, R2, z2, _⟩ := open_listT (fun _ _ => True) Tryd.slI32 Tryd.clI32 encI32_len (by omega) read_i32d (x0 := y2) (by simpa using h2)
    obtain ⟨A3, n3, k3, s, hs, m3, _, _, R3, z3, P3⟩ := open_listT (fun a d => okV a.v ∧ a.v.s.size + 1 ≤ Rows.uptoBulk d) Tryd.slAt Tryd.qcAt At.enc_len (by omega) read_atd (x0 := y3) (by simpa using h3)
    obtain ⟨A4, n4, k4, p, hp, m4, _, _, R4, z4, P4⟩ := open_listT (fun a d => okV a.v ∧ a.v.s.size + 1 ≤ Rows.uptoBulk d) Tryd.slCh Tryd.qcCh Ch.enc_len (by omega) read_chd (x0 := y4) (by simpa using h4)
    subst m2 m3 m4
    simp at ha hb hr hs hp
    refine ⟨⟨⟨a, b, r, s, p⟩, A2, k2, A3, k3, A4, k4⟩, by simp [ha, hb, hr, hs, hp, OpS.enc], ⟨R2, R3, R4⟩, fun hbu => ?_⟩
    rw [hx] at hbu
    have hm2 := bulk_mem (d := y2.1) (l := [y0, y1, y2, y3, y4].map (·.1)) (by simp)
    have hm3 := bulk_mem (d := y3.1) (l := [y0, y1, y2, y3, y4].map (·.1)) (by simp)
    have hm4 := bulk_mem (d := y4.1) (l := [y0, y1, y2, y3, y4].map (·.1)) (by simp)
    simp only [Rows.uptoBulk] at hbu
    refine ⟨fun c hc => ?_, fun c hc => ?_, ?_, ?_, ?_⟩
    · obtain ⟨d', ⟨h1, h2⟩, h3⟩ := P3 c hc
      exact h1
    · obtain ⟨d', ⟨h1, h2⟩, h3⟩ := P4 c hc
      exact ⟨h1, by omega⟩
    · show r.length ≤ _; omega
    · show s.length ≤ _; omega
    · show p.length ≤ _; omega
end
end Go.Proofs.YtnhmbocgopjbjaaDoor
