/- Merged texts: Known18, Great18, SameCl, SameOs. -/
import Derived.Test.YtipoeidmblnbbaaDoorPk16
import Derived.Test.YtipoeidmblnbbaaDoorPk6
import Derived.Test.YtipoeidmblnbbaaDoorPk13
import Derived.Test.YtipoeidmblnbbaaDoorPk9
import Derived.Test.YtipoeidmblnbbaaDoorPk7
/- The walk of rubriclaw18.known. -/
namespace Go.Proofs.YtipoeidmblnbbaaDoor
open Go.RowKit
set_option linter.unusedVariables false
set_option linter.unusedSimpArgs false

def kK18 : List Ky := [⟨1, false, 1, false, false, 0⟩, ⟨11, true, 2, false, false, 0⟩]
def two18 : List At := [⟨11, ⟨2, 2, 0, ⟨#[]⟩⟩⟩]
def d18 (b : Nat) : List ClS := [⟨⟨97, []⟩, none, 0⟩, ⟨⟨98, []⟩, none, 0⟩, ⟨⟨10, two18⟩, some ⟨b, 0, none⟩, 1⟩]
theorem d18_cl (b : Nat) : clsOf (d18 b) = [⟨97, []⟩, ⟨98, []⟩, ⟨10, two18⟩] := rfl
theorem d18_ops : mkOps (deltaM [⟨97, []⟩, ⟨98, []⟩, ⟨10, two18⟩]) = [opI [97, 98] [], opR 1 [⟨11, false, ⟨2, 2, 0, ⟨#[]⟩⟩⟩]] := by decide +kernel
theorem d18_may : mayD kK18 [⟨97, []⟩, ⟨98, []⟩, ⟨10, two18⟩] = 0 := by decide +kernel
theorem d18_may2 : mayD kK18 [⟨97, []⟩, ⟨98, []⟩] = 6 := by decide +kernel

set_option maxHeartbeats 400000 in
theorem blank_any (w : World) : Calls Tryd.prog 23 #[] w fun e w' => e = .returned (.slice (some ⟨w.heap.size, 0, none⟩) 1 1) ∧ w'.cell? ⟨w.heap.size, 0, none⟩ = some (.int .i32 10) ∧ Below w.heap.size w w' := by
  obtain ⟨a0, a1⟩ := box_cl (heap_alloc_new w (.cells #[.int .i32 10, .slice none 0 0] 53))
  have y := ext_alloc w (.cells #[.int .i32 10, .slice none 0 0] 53)
  have A0 := Lib.hid a0
  clear a0 a1
  go_enter Tryd.func23, Tryd.ntmps23
  go_wp2_with (fail)
  go_ret
  exact ⟨rfl, A0.out, y⟩

set_option maxRecDepth 100000 in
set_option maxHeartbeats 3200000 in
theorem known18_any (w : World) (hT : Lib.Utf8Tabs 1 2 w) :
    Calls Tryd.prog 8 #[] w fun e w' => e = .returned (.bool true) ∧ Below w.heap.size w w' := by
  go_enter Tryd.func8, Tryd.ntmps8
  go_wp2_with (go_at_call 9; refine Hid.out ?_)
  refine Lib.hid ?_
  have y := ext_alloc w (.cells #[.int .i64 1, .bool false, .int .u8 1, .bool false, .bool false, .int .i64 0, .int .i64 11, .bool true, .int .u8 2, .bool false, .bool false, .int .i64 0] 60)
  have rk : RdKy _ _ _ kK18 := Rd.new (enc := Ky.enc) (size := 6) Ky.enc_len w 60 kK18 (cs := #[.int .i64 1, .bool false, .int .u8 1, .bool false, .bool false, .int .i64 0, .int .i64 11, .bool true, .int .u8 2, .bool false, .bool false, .int .i64 0]) rfl rfl
  refine (new_any (some ⟨w.heap.size, 0, none⟩) 2 2 kK18 _ rfl rk (by omega)).mono ?_
  rintro e v1 ⟨y1, ⟨hm, s, rfl, hS⟩ | ⟨hm, rfl⟩⟩
  rotate_left
  · have : mayKs kK18 = true := by decide +kernel
    rw [this] at hm; cases hm
  clear hm rk
  replace y := ext_trans y y1
  clear y1
  go_wp2_with (go_at_call 13; refine Hid.out ?_)
  refine Lib.hid ?_
  have ya := ext_alloc v1 (.cells #[.int .i64 11, .int .u8 2, .int .i64 2, .int .u64 0, .string ⟨#[]⟩] 58)
  have ra : RdAt (v1.alloc (.cells #[.int .i64 11, .int .u8 2, .int .i64 2, .int .u64 0, .string ⟨#[]⟩] 58)) (v1.alloc (.cells #[.int .i64 11, .int .u8 2, .int .i64 2, .int .u64 0, .string ⟨#[]⟩] 58)).heap.size (some ⟨v1.heap.size, 0, none⟩) two18 := Rd.new (enc := At.enc) (size := 5) At.enc_len v1 58 two18 (cs := #[.int .i64 11, .int .u8 2, .int .i64 2, .int .u64 0, .string ⟨#[]⟩]) rfl rfl
  have z1 : (v1.alloc (.cells #[.int .i64 11, .int .u8 2, .int .i64 2, .int .u64 0, .string ⟨#[]⟩] 58)).heap.size = v1.heap.size + 1 := by simp
  generalize v1.alloc (.cells #[.int .i64 11, .int .u8 2, .int .i64 2, .int .u64 0, .string ⟨#[]⟩] 58) = u1 at *
  have yb := ext_alloc u1 (.cells #[.int .i32 97, .slice none 0 0, .int .i32 98, .slice none 0 0, .int .i32 10, .slice (some ⟨v1.heap.size, 0, none⟩) 1 1] 53)
  have rl := Rd.new (enc := ClS.enc) (size := 2) ClS.enc_len u1 53 (d18 v1.heap.size) (cs := #[.int .i32 97, .slice none 0 0, .int .i32 98, .slice none 0 0, .int .i32 10, .slice (some ⟨v1.heap.size, 0, none⟩) 1 1]) rfl (b := v1.heap.size + 1) z1.symm
  generalize u1.alloc (.cells #[.int .i32 97, .slice none 0 0, .int .i32 98, .slice none 0 0, .int .i32 10, .slice (some ⟨v1.heap.size, 0, none⟩) 1 1] 53) = u2 at *
  have RC : Hid (RdCl u2 u2.heap.size (some ⟨v1.heap.size + 1, 0, none⟩) (d18 v1.heap.size)) := Lib.hid ⟨rl, fun x hx => by
    simp only [d18, List.mem_cons, List.not_mem_nil, or_false] at hx
    rcases hx with rfl | rfl | rfl
    · exact Rd.nil
    · exact Rd.nil
    · exact ra.ext yb⟩
  replace y := ext_trans y (ext_trans ya yb)
  have HS := Lib.hid (hS.ext (ext_trans ya yb))
  have HC : Hid (∀ x ∈ d18 v1.heap.size, x.c.s.length ≤ 64 ∧ okVr x.c.s) := Lib.hid (fun x hx => by
    simp only [d18, List.mem_cons, List.not_mem_nil, or_false] at hx
    rcases hx with rfl | rfl | rfl
    · exact ⟨by simp, fun c hc => by cases hc⟩
    · exact ⟨by simp, fun c hc => by cases hc⟩
    · refine ⟨by simp [two18], fun c hc => ?_⟩
      simp only [two18, List.mem_cons, List.not_mem_nil, or_false] at hc
      subst hc
      unfold okV
      simp only
      omega)
  have HB := Lib.hid (delta_bounds (clsOf (d18 v1.heap.size)) (by rw [d18_cl]; simp) (fun c hc => by
    unfold clsOf at hc
    obtain ⟨x, hx, rfl⟩ := List.mem_map.1 hc
    exact (HC.out x hx).1))
  have Y := Lib.hid y
  clear ya yb rl ra z1 hS y
  refine (delta_any (some ⟨v1.heap.size + 1, 0, none⟩) 3 3 (d18 v1.heap.size) u2 rfl (by omega) RC.out (by omega) (fun x hx => (HC.out x hx).1) (fun x hx => by rw [diff_new, List.length_map]; have := (HC.out x hx).1; omega) HB.out.1 HB.out.2).mono ?_
  rintro e u3 ⟨A3, c3, l3, rfl, ho3, hw3, _, y3⟩
  rw [d18_cl, d18_ops] at ho3
  have hlen : l3.length = 2 := by
    have h := congrArg List.length ho3
    unfold osOf at h
    simpa using h
  obtain ⟨x1, x2, rfl⟩ : ∃ x1 x2, l3 = [x1, x2] := by
    match l3, hlen with
    | [a, b], _ => exact ⟨a, b, rfl⟩
  clear hlen
  unfold osOf at ho3
  simp only [List.map_cons, List.map_nil, List.cons.injEq, and_true] at ho3
  obtain ⟨hx1, hx2⟩ := ho3
  obtain ⟨g, cur, hA, _, _, hg, _, _, _, _⟩ := hw3.row (by simp)
  subst hA
  obtain ⟨ad1, hA1, _, hc1⟩ := (hw3.rd OpS.enc_len).at_ (i := 0) (by simp)
  obtain ⟨ad2, hA2, _, hc2⟩ := (hw3.rd OpS.enc_len).at_ (i := 1) (by simp)
  injection hA1 with hA1; subst hA1
  injection hA2 with hA2; subst hA2
  rw [add_row] at hc1 hc2
  have f1 : u3.cell? ⟨g, 2, none⟩ = some (.slice x1.Ar 2 x1.cr) := by
    have := cellsAt_lit hc1 1 (u := .slice x1.Ar x1.o.r.length x1.cr) rfl
    rw [hx1] at this
    exact this
  have f2 : u3.cell? ⟨g, 6, none⟩ = some (.int .i64 1) := by
    have := cellsAt_lit hc2 0 (u := .int .i64 x2.o.n) rfl
    rw [hx2] at this
    exact this
  have F1 := Lib.hid f1
  have F2 := Lib.hid f2
  have G3 := Lib.hid (lt_of_some hg)
  have HS3 := Lib.hid (HS.out.ext y3)
  have RC3 := Lib.hid (RC.out.ext y3)
  have Y3 := Lib.hid (ext_trans Y.out y3)
  clear hc1 hc2 f1 f2 hg hw3 hx1 hx2 y3 HB
  go_wp2_with (go_at_call 10; refine Hid.out ?_)
  refine Lib.hid ?_
  refine (mayCells_any s kK18 _ 3 3 (d18 v1.heap.size) u3 rfl RC3.out (by omega) HS3.out (fun x hx => ⟨by have := (HC.out x hx).1; omega, (HC.out x hx).2⟩) (Utf8Tabs_below hT Y3.out)).mono ?_
  rw [d18_cl, d18_may]
  rintro e u4 ⟨rfl, y4⟩
  have HS4 := Lib.hid (HS3.out.ext y4)
  have RC4 := Lib.hid (RC3.out.ext y4)
  have Y4 := Lib.hid (ext_trans Y3.out y4)
  have Y34 := Lib.hid y4
  clear y4
  go_wp2_with (go_at_call 10; refine Hid.out ?_)
  refine Lib.hid ?_
  refine (mayCells_any s kK18 _ 2 3 ((d18 v1.heap.size).take 2) u4 rfl ⟨RC4.out.1.take 2, fun x hx => RC4.out.2 x (List.mem_of_mem_take hx)⟩ (by omega) HS4.out (fun x hx => ⟨by have := (HC.out x (List.mem_of_mem_take hx)).1; omega, (HC.out x (List.mem_of_mem_take hx)).2⟩) (Utf8Tabs_below hT Y4.out)).mono ?_
  rw [show clsOf ((d18 v1.heap.size).take 2) = [⟨97, []⟩, ⟨98, []⟩] from rfl, d18_may2]
  rintro e u5 ⟨rfl, y5⟩
  have Y5 := Lib.hid (ext_trans Y4.out y5)
  have Y35 := Lib.hid (ext_trans Y34.out y5)
  have f1 : u5.cell? ⟨g, 2, none⟩ = some (.slice x1.Ar 2 x1.cr) := (Y35.out.cell G3.out).trans F1.out
  have f2 : u5.cell? ⟨g, 6, none⟩ = some (.int .i64 1) := (Y35.out.cell G3.out).trans F2.out
  clear y5
  go_wp2_with (go_at_call 23; refine Hid.out ?_)
  refine Lib.hid ?_
  refine (blank_any u5).mono ?_
  rintro e u6 ⟨rfl, _, y6⟩
  have Y6 := Lib.hid (ext_trans Y5.out y6)
  clear y6 f1 f2
  go_wp2_with (go_at_call 23; refine Hid.out ?_)
  refine Lib.hid ?_
  refine (blank_any u6).mono ?_
  rintro e u7 ⟨rfl, f7, y7⟩
  have Y7 := Lib.hid (ext_trans Y6.out y7)
  clear y7
  go_wp2_with (fail)
  go_ret
  exact ⟨rfl, Y7.out⟩
end Go.Proofs.YtipoeidmblnbbaaDoor
/- The walk of rubricref18.Great. -/
namespace Go.Proofs.YtipoeidmblnbbaaDoor
open Go.RowKit
set_option linter.unusedVariables false
set_option linter.unusedSimpArgs false

def GreatOut (n : Nat) (l : List ClS) (lim : Int) (w : World) (e : Ending) (w' : World) : Prop :=
  ∃ b : Bool, e = .returned (.bool b) ∧ (b = false → (n : Int) ≤ lim ∧ ∀ x ∈ l, x.c.s.length ≤ 64) ∧ ∃ d, w' = w.drewN d
set_option maxRecDepth 100000 in
set_option maxHeartbeats 1600000 in
theorem great18_any (A : Option Addr) (n c : Nat) (l : List ClS) (lim : Int) (w : World) (hn : n = l.length) (h : RdCl w w.heap.size A l) (hb : n ≤ 140737488355328) (hs : ∀ x ∈ l, x.c.s.length ≤ 140737488355328) :
    Calls Tryd.prog 7 #[.slice A n c, .int .i64 lim] w (GreatOut n l lim w) := by
  have N := Lib.hid hn
  have HR := Lib.hid h
  have HS := Lib.hid hs
  clear hn h hs
  by_cases hl : lim < (n : Int)
  · go_enter Tryd.func7, Tryd.ntmps7
    go_wp2_with (fail)
    go_ret
    exact ⟨true, rfl, (by intro h; cases h), 0, rfl⟩
  have hle : (n : Int) ≤ lim := by omega
  go_enter Tryd.func7, Tryd.ntmps7
  go_wp2_with (fail)
  go_loopg [5, 6] n (fun g av iv wr => ∃ (m : Nat) (a : Int), m ≤ n ∧ g = n - m ∧ av = .int .i64 a ∧ iv = .int .i64 (m : Int) ∧ (∃ d, wr = w.drewN d) ∧ Hid (∀ x ∈ l.take m, x.c.s.length ≤ 64))
  case atStart => exact ⟨0, 0, by omega, rfl, rfl, rfl, ⟨0, rfl⟩, Lib.hid (by simp)⟩
  case round =>
    obtain ⟨m, a, hm, hg, rfl, rfl, ⟨d, rfl⟩, HI⟩ := hrel
    have HG := Lib.hid hg
    clear hg
    by_cases hlt : m < n
    · have hl1 : m < l.length := by have := N.out; omega
      obtain ⟨ad, o, had0, had, hd1, hx1, hc0⟩ := HR.out.1.el hl1
      subst had0
      have hmem := List.mem_of_getElem? hx1
      have g2 := HR.out.2 o hmem
      have hso := HS.out o hmem
      have HT : Hid (l.take (m + 1) = l.take m ++ [o]) := Lib.hid (by rw [List.take_add_one, hx1]; rfl)
      obtain ⟨⟨r, s⟩, As, cs⟩ := o
      simp only at g2 hso
      obtain ⟨r0, r1⟩ := cl_cells hc0
      obtain ⟨ns, hns⟩ : ∃ X, s.length = X := ⟨_, rfl⟩
      have NS := Lib.hid hns
      rw [hns] at r1 hso
      have hw2 : IntKind.i64.wrap ((m:Int) + 1) = (m : Int) + 1 := IntWalk.i64_in _ (by omega)
      clear hc0 hd1 hx1 hmem hns hl1
      by_cases h64 : (64 : Int) < (ns : Int)
      · go_wp2_with (fail)
        go_ret
        exact ⟨true, rfl, (by intro h; cases h), _, rfl⟩
      · have h64' : Hid (s.length ≤ 64) := Lib.hid (by rw [NS.out]; omega)
        go_wp2_with (fail)
        go_loopg [5, 7] ns (fun g av iv wi => ∃ (j : Nat) (b : Int), j ≤ ns ∧ g = ns - j ∧ av = .int .i64 b ∧ iv = .int .i64 (j : Int) ∧ ∃ d, wi = w.drewN d)
        case atStart => exact ⟨0, _, by omega, rfl, rfl, rfl, _, rfl⟩
        case round =>
          obtain ⟨j, b, hj, hg2, rfl, rfl, d2, rfl⟩ := hrel
          have HG2 := Lib.hid hg2
          clear hg2
          by_cases hls : j < ns
          · obtain ⟨ad2, z, e2, _, _, _, hz⟩ := g2.el (i := j) (by have := NS.out; omega)
            subst e2
            obtain ⟨z1, z2, z3, z4, z5⟩ := z
            obtain ⟨s0, s1, s2, s3, s4⟩ := at_cells hz
            have hw3 : IntKind.i64.wrap ((j:Int) + 1) = (j : Int) + 1 := IntWalk.i64_in _ (by omega)
            clear hz
            go_wp2_with (fail)
            go_roundg (ns - (j + 1))
            case measure => have := HG2.out; omega
            case rel => exact ⟨j + 1, _, by omega, rfl, rfl, by go_num, _, rfl⟩
          · go_wp2_with (fail)
            go_roundg (n - (m + 1))
            case measure => have := HG.out; omega
            case rel =>
              refine ⟨m + 1, _, by omega, rfl, rfl, by go_num, ⟨_, rfl⟩, Lib.hid ?_⟩
              intro y hy
              rw [HT.out] at hy
              rcases List.mem_append.1 hy with hy | hy
              · exact HI.out y hy
              · simp at hy; subst hy; exact h64'.out
    · have hmn : l.take m = l := List.take_of_length_le (by have := N.out; omega)
      have HI2 := HI.out
      rw [hmn] at HI2
      have H2 := Lib.hid HI2
      clear HI2 hmn
      go_wp2_with (fail)
      go_ret
      exact ⟨_, rfl, fun _ => ⟨hle, H2.out⟩, _, rfl⟩
end Go.Proofs.YtipoeidmblnbbaaDoor
/- The walks of cells.Same and cells.Text. -/
namespace Go.Proofs.YtipoeidmblnbbaaDoor
open Go.RowKit
set_option linter.unusedVariables false
set_option linter.unusedSimpArgs false

set_option maxRecDepth 100000 in
set_option maxHeartbeats 400000 in
theorem sameCl1_any (r1 r2 : Int) (p1 p2 : List At) (A1 A2 : Option Addr) (c1 c2 : Nat) (w : World) (h1 : RdAt w w.heap.size A1 p1) (h2 : RdAt w w.heap.size A2 p2) (b1 : p1.length ≤ 140737488355328) (b2 : p2.length ≤ 140737488355328) :
    Calls Tryd.prog 38 #[.agg #[.int .i32 r1, .slice A1 p1.length c1], .agg #[.int .i32 r2, .slice A2 p2.length c2]] w fun e w' => e = .returned (.bool (decide ((⟨r1, p1⟩ : Cl) = ⟨r2, p2⟩))) ∧ Below w.heap.size w w' := by
  have y1 := ext_alloc w (.cells #[.int .i32 r1, .slice A1 p1.length c1] 53)
  have y2 := ext_alloc (w.alloc (.cells #[.int .i32 r1, .slice A1 p1.length c1] 53)) (.cells #[.int .i32 r2, .slice A2 p2.length c2] 53)
  have yy := ext_trans y1 y2
  have q1 := h1.ext yy
  have q2 := h2.ext yy
  obtain ⟨a0, a1⟩ := box_cl ((y2.block w.heap.size (by simp)).trans (heap_alloc_new w (.cells #[.int .i32 r1, .slice A1 p1.length c1] 53)))
  by_cases hr : r1 = r2
  · subst hr
    have HB : Hid (decide ((⟨r1, p1⟩ : Cl) = ⟨r1, p2⟩) = decide (p1 = p2)) := Lib.hid (by by_cases h : p1 = p2 <;> simp [h])
    rw [HB.out]
    clear y1 y2 h1 h2
    go_enter Tryd.func38, Tryd.ntmps38
    go_wp2_with (go_at_call 39; refine Hid.out ?_)
    refine Lib.hid ?_
    refine (attrsSame_any A1 A2 p1.length p2.length c1 c2 p1 p2 _ rfl rfl q1 q2 b1 b2).mono ?_
    rintro e w' ⟨rfl, q, rfl⟩
    cases hd : decide (p1 = p2)
    all_goals
      have HD := Lib.hid hd
      clear hd
      go_wp2_with (fail)
      go_ret
      exact ⟨ret_bool HD.out.symm, below_drewN yy q⟩
  · have HB : Hid (decide ((⟨r1, p1⟩ : Cl) = ⟨r2, p2⟩) = false) := Lib.hid (decide_eq_false (fun e => hr (by injection e)))
    rw [HB.out]
    have hne : (r1 == r2) = false := beq_eq_false_iff_ne.2 hr
    clear y1 y2 h1 h2 hr
    go_enter Tryd.func38, Tryd.ntmps38
    go_wp2_with (fail)
    go_ret
    exact ⟨rfl, yy⟩

set_option maxRecDepth 100000 in
set_option maxHeartbeats 800000 in
theorem equalCl_any (A B : Option Addr) (n m c d : Nat) (l k : List ClS) (w : World) (hn : n = l.length) (hm : m = k.length) (h1 : RdCl w w.heap.size A l) (h2 : RdCl w w.heap.size B k) (hb : n ≤ 100000000) (hb2 : m ≤ 100000000)
    (hs1 : ∀ x ∈ l, x.c.s.length ≤ 140737488355328) (hs2 : ∀ x ∈ k, x.c.s.length ≤ 140737488355328) :
    Calls Tryd.prog 37 #[.slice A n c, .slice B m d, .func (.func 38) #[] #[]] w fun e w' => e = .returned (.bool (decide (clsOf l = clsOf k))) ∧ Below w.heap.size w w' := by
  have N := Lib.hid hn
  have M := Lib.hid hm
  have H1 := Lib.hid h1
  have H2 := Lib.hid h2
  have S1 := Lib.hid hs1
  have S2 := Lib.hid hs2
  generalize hR : decide (clsOf l = clsOf k) = R
  have HR := Lib.hid hR
  clear hn hR hm h1 h2 hs1 hs2
  have HL : Hid (∀ x : List ClS, (clsOf x).length = x.length) := Lib.hid (fun x => by unfold clsOf; simp)
  by_cases hnm : (n : Int) = m
  · have hnm' : n = m := by omega
    subst hnm'
    clear hnm
    go_enter Tryd.func37, Tryd.ntmps37
    go_wp2_with (fail)
    go_loopg [17] n (fun g iv wr => ∃ i : Nat, i ≤ n ∧ g = n - i ∧ iv = .int .i64 (i : Int) ∧ Below w.heap.size w wr ∧ Hid (decide (clsOf (l.drop i) = clsOf (k.drop i)) = R))
    case atStart => exact ⟨0, by omega, rfl, rfl, Below.refl _ _, Lib.hid (by rw [List.drop_zero, List.drop_zero]; exact HR.out)⟩
    case round =>
      obtain ⟨i, hi, hg, rfl, y, HI⟩ := hrel
      have HG := Lib.hid hg
      clear hg HR
      by_cases hlt : i < n
      · have hl1 : i < l.length := by have := N.out; omega
        have hl2 : i < k.length := by have := M.out; omega
        obtain ⟨ad, x, rfl, _, hd1, hx1, hc1⟩ := (H1.out.ext y).1.el hl1
        obtain ⟨ad2, x', rfl, had2, hd2, hx2, hc2⟩ := (H2.out.ext y).1.el hl2
        have hm1 := List.mem_of_getElem? hx1
        have hm2 := List.mem_of_getElem? hx2
        have p1 := Lib.hid (H1.out.2 x hm1)
        have p2 := Lib.hid (H2.out.2 x' hm2)
        have b1 := Lib.hid (S1.out x hm1)
        have b2 := Lib.hid (S2.out x' hm2)
        have HI' : Hid (decide (x.c :: clsOf (l.drop (i + 1)) = x'.c :: clsOf (k.drop (i + 1))) = R) := Lib.hid (by rw [← HI.out, hd1, hd2]; rfl)
        clear HI hd1 hd2 hx1 hx2 hm1 hm2
        obtain ⟨⟨r1, s1⟩, As1, cs1⟩ := x
        obtain ⟨⟨r2, s2⟩, As2, cs2⟩ := x'
        obtain ⟨z0, z1⟩ := cl_cells hc1
        have ya := ext_alloc wr (.cells #[.int .i32 r1, .slice As1 s1.length cs1] 53)
        obtain ⟨u0, u1⟩ := cl_cells (hc2.keep (w' := wr.alloc (.cells #[.int .i32 r1, .slice As1 s1.length cs1] 53)) fun q hq => ya.cell (by rw [hq, add_block]; exact had2))
        clear hc1 hc2 hl1 hl2 had2
        have yb := ext_alloc (wr.alloc (.cells #[.int .i32 r1, .slice As1 s1.length cs1] 53)) (.cells #[.int .i32 r2, .slice As2 s2.length cs2] 53)
        have y3 := Lib.hid (ext_trans y (ext_trans ya yb))
        clear ya yb
        go_wp2_with (go_at_call 38; refine Hid.out ?_)
        refine Lib.hid ?_
        refine (sameCl1_any r1 r2 s1 s2 As1 As2 cs1 cs2 _ (p1.out.ext y3.out) (p2.out.ext y3.out) b1.out b2.out).mono ?_
        rintro e w' ⟨rfl, y4⟩
        have yy := ext_trans y3.out y4
        have hw2 : IntKind.i64.wrap ((i:Int) + 1) = (i : Int) + 1 := IntWalk.i64_in _ (by omega)
        by_cases hxy : (⟨r1, s1⟩ : Cl) = ⟨r2, s2⟩
        · have HXY := Lib.hid hxy
          rw [decide_eq_true hxy]
          clear hxy
          go_wp2_with (fail)
          go_roundg (n - (i + 1))
          case measure => have := HG.out; omega
          case rel => exact ⟨i + 1, by omega, rfl, by go_num, yy, Lib.hid (by rw [← HI'.out]; simp only [List.cons.injEq, HXY.out, true_and])⟩
        · have HXY := Lib.hid hxy
          rw [decide_eq_false hxy]
          clear hxy
          go_wp2_with (fail)
          go_ret
          exact ⟨ret_bool (by rw [← HI'.out]; exact (decide_eq_false fun e => HXY.out (List.cons.inj e).1).symm), yy⟩
      · go_wp2_with (fail)
        go_ret
        exact ⟨ret_bool (by rw [← HI.out, List.drop_eq_nil_of_le (by have := N.out; omega), List.drop_eq_nil_of_le (by have := M.out; omega)]; rfl), y⟩
  · have hne : ((n : Int) == m) = false := beq_eq_false_iff_ne.2 hnm
    go_enter Tryd.func37, Tryd.ntmps37
    go_wp2_with (fail)
    go_ret
    refine ⟨ret_bool ?_, Below.refl _ _⟩
    rw [← HR.out]
    refine (decide_eq_false fun e => ?_).symm
    have h3 := N.out
    have h4 := M.out
    have h5 := congrArg List.length e
    rw [HL.out, HL.out] at h5
    omega
set_option maxHeartbeats 400000 in
theorem cellsSame_any (A B : Option Addr) (n m c d : Nat) (l k : List ClS) (w : World) (hn : n = l.length) (hm : m = k.length) (h1 : RdCl w w.heap.size A l) (h2 : RdCl w w.heap.size B k) (hb : n ≤ 100000000) (hb2 : m ≤ 100000000)
    (hs1 : ∀ x ∈ l, x.c.s.length ≤ 140737488355328) (hs2 : ∀ x ∈ k, x.c.s.length ≤ 140737488355328) :
    Calls Tryd.prog 11 #[.slice A n c, .slice B m d] w fun e w' => e = .returned (.bool (decide (clsOf l = clsOf k))) ∧ Below w.heap.size w w' := by
  have H := Lib.hid (equalCl_any A B n m c d l k w hn hm h1 h2 hb hb2 hs1 hs2)
  clear hn hm h1 h2 hs1 hs2
  generalize decide (clsOf l = clsOf k) = R at *
  go_enter Tryd.func11, Tryd.ntmps11
  go_wp2_with (go_at_call 37; refine Hid.out ?_)
  refine Lib.hid ?_
  refine H.out.mono ?_
  rintro e w' ⟨rfl, y⟩
  go_wp2_with (fail)
  go_ret
  exact ⟨rfl, y⟩

set_option maxRecDepth 100000 in
set_option maxHeartbeats 800000 in
theorem cellsText_any (A : Option Addr) (n c : Nat) (l : List ClS) (w : World) (hn : n = l.length) (h : RdCs w w.heap.size A l) (hb : n ≤ 100000000) :
    Calls Tryd.prog 15 #[.slice A n c] w (NewI32 (l.map (·.c.r)) w) := by
  have N := Lib.hid hn
  have H := Lib.hid h
  clear hn h
  go_enter Tryd.func15, Tryd.ntmps15
  go_wp2_with (fail)
  go_loopg [3, 8] n (fun g v iv wr => ∃ i : Nat, i ≤ n ∧ g = n - i ∧ iv = .int .i64 (i : Int) ∧ OwI32 wr w.heap.size v ((l.take i).map (·.c.r)) ∧ Below w.heap.size w wr)
  case atStart => exact ⟨0, by omega, rfl, rfl, Ow.nil _ _, Below.refl _ _⟩
  case round =>
    obtain ⟨i, hi, hg, rfl, ho, y⟩ := hrel
    have HG := Lib.hid hg
    clear hg
    by_cases hlt : i < n
    · have hl1 : i < l.length := by have := N.out; omega
      obtain ⟨ad, x, rfl, _, _, hx1, hc1⟩ := (H.out.ext y).el hl1
      have E := Lib.hid (show (l.take (i + 1)).map (·.c.r) = (l.take i).map (·.c.r) ++ [x.c.r] by rw [List.take_add_one, hx1]; simp)
      have hlen := Lib.hid (show ((l.take i).map (·.c.r)).length ≤ 100000000 by rw [List.length_map, List.length_take]; omega)
      obtain ⟨⟨r, s⟩, As, cs⟩ := x
      obtain ⟨z0, z1⟩ := cl_cells hc1
      clear hx1 hc1 hl1
      have ya := ext_alloc wr (.cells #[.int .i32 r, .slice As s.length cs] 53)
      have HO := Lib.hid (ho.alloc (.cells #[.int .i32 r, .slice As s.length cs] 53))
      have y3 := ext_trans y ya
      have hw2 : IntKind.i64.wrap ((i:Int) + 1) = (i : Int) + 1 := IntWalk.i64_in _ (by omega)
      clear ho ya
      go_wp2_with (at_builtin; refine app_i32 (m := [r]) rfl (.tmp 12) (.tmp 15) rfl rfl (by exact HO.out.alloc _) _ _ 1 1 rfl rfl (by exact rd_one_at (enc := encI32) (size := 1) _ _ r rfl (by simp)) (by have := hlen.out; simp only [List.length_singleton]; omega) (by have := y3.size; simp at this ⊢; omega) ?_; intro v' w' hown' hgr hv')
      have s1 := below_app (y3.alloc y3.size _) (by have := y3.size; simp at this ⊢; omega) (HO.out.alloc _) (Nat.le_refl _) hgr
      go_wp2_with (fail)
      go_roundg (n - (i + 1))
      case measure => have := HG.out; omega
      case rel => exact ⟨i + 1, by omega, rfl, by go_num, by rw [E.out]; exact hown', s1⟩
    · have hin : i = n := by omega
      subst hin
      have e : (l.take i).map (·.c.r) = l.map (·.c.r) := by rw [List.take_of_length_le (by have := N.out; omega)]
      rw [e] at ho
      obtain ⟨A', c', rfl, _, _⟩ := ho.form
      have HO := Lib.hid ho
      clear ho e
      go_wp2_with (fail)
      go_ret
      exact ⟨A', c', by first | rfl | simp, HO.out, y⟩
end Go.Proofs.YtipoeidmblnbbaaDoor
/- The walks of slices.Equal over runes and of ops.Same. -/
namespace Go.Proofs.YtipoeidmblnbbaaDoor
open Go.RowKit
set_option linter.unusedVariables false
set_option linter.unusedSimpArgs false

set_option maxRecDepth 100000 in
set_option maxHeartbeats 400000 in
theorem equalI_any (A B : Option Addr) (n m c d : Nat) (l k : List Int) (w : World) (hn : n = l.length) (hm : m = k.length) (h1 : RdI32 w w.heap.size A l) (h2 : RdI32 w w.heap.size B k) (hb : n ≤ 140737488355328) (hb2 : m ≤ 140737488355328) :
    Calls Tryd.prog 42 #[.slice A n c, .slice B m d] w fun e w' => e = .returned (.bool (decide (l = k))) ∧ Below w.heap.size w w' := by
  have N := Lib.hid hn
  have M := Lib.hid hm
  generalize hR : decide (l = k) = R
  have HR := Lib.hid hR
  clear hn hR hm
  by_cases hnm : (n : Int) = m
  · have hnm' : n = m := by omega
    subst hnm'
    clear hnm
    go_enter Tryd.func42, Tryd.ntmps42
    go_wp2_with (fail)
    go_loopg [13] n (fun g iv wr => ∃ i : Nat, i ≤ n ∧ g = n - i ∧ iv = .int .i64 (i : Int) ∧ (∃ q, wr = w.drewN q) ∧ Hid (decide (l.drop i = k.drop i) = R))
    case atStart => exact ⟨0, by omega, rfl, rfl, ⟨0, rfl⟩, Lib.hid (by rw [List.drop_zero, List.drop_zero]; exact HR.out)⟩
    case round =>
      obtain ⟨i, hi, hg, rfl, ⟨q, rfl⟩, HI⟩ := hrel
      have HG := Lib.hid hg
      clear hg HR
      by_cases hlt : i < n
      · have hl1 : i < l.length := by have := N.out; omega
        have hl2 : i < k.length := by have := M.out; omega
        obtain ⟨ad, x, rfl, _, hd1, _, hc1⟩ := h1.el hl1
        obtain ⟨ad2, y, rfl, _, hd2, _, hc2⟩ := h2.el hl2
        have HI' : Hid (decide (x :: l.drop (i + 1) = y :: k.drop (i + 1)) = R) := Lib.hid (by rw [← HI.out, hd1, hd2])
        have r0 := hc1 0 _ rfl
        rw [add_zero', Nat.mul_one] at r0
        have s0 := hc2 0 _ rfl
        rw [add_zero', Nat.mul_one] at s0
        clear HI hd1 hd2 hc1 hc2
        by_cases hxy : x = y
        · subst hxy
          go_wp2_with (go_quiet (fail))
          go_roundg (n - (i + 1))
          case measure => have := HG.out; omega
          case rel => exact ⟨i + 1, by omega, rfl, by go_num, ⟨_, rfl⟩, Lib.hid (by rw [← HI'.out]; simp only [List.cons.injEq, true_and])⟩
        · have HXY := Lib.hid hxy
          have hne : (x == y) = false := beq_eq_false_iff_ne.2 hxy
          clear hxy
          go_wp2_with (go_quiet (fail))
          go_ret
          exact ⟨ret_bool (by rw [← HI'.out]; exact (decide_eq_false fun e => HXY.out (List.cons.inj e).1).symm), by rw [World.drewN_drewN]; exact ext_drew w _⟩
      · go_wp2_with (fail)
        go_ret
        exact ⟨ret_bool (by rw [← HI.out, List.drop_eq_nil_of_le (by have := N.out; omega), List.drop_eq_nil_of_le (by have := M.out; omega)]; rfl), ext_drew w _⟩
  · have hne : ((n : Int) == m) = false := beq_eq_false_iff_ne.2 hnm
    go_enter Tryd.func42, Tryd.ntmps42
    go_wp2_with (fail)
    go_ret
    refine ⟨ret_bool ?_, Below.refl _ _⟩
    rw [← HR.out]
    refine (decide_eq_false fun e => ?_).symm
    have h3 := N.out
    have h4 := M.out
    rw [e] at h3
    omega

/-- an op's parts can be read and are no longer than Go bears -/
def OpIn (w : World) (x : OpS) : Prop :=
  RdI32 w w.heap.size x.Ar x.o.r ∧ RdAt w w.heap.size x.As x.o.s ∧ RdCh w w.heap.size x.Ap x.o.p ∧ x.o.r.length ≤ 140737488355328 ∧ x.o.s.length ≤ 140737488355328 ∧ x.o.p.length ≤ 140737488355328
theorem OpIn.ext {w w' : World} {x : OpS} (h : OpIn w x) (y : Below w.heap.size w w') : OpIn w' x := ⟨h.1.ext y, h.2.1.ext y, h.2.2.1.ext y, h.2.2.2⟩
theorem box_op {w : World} {b : Nat} {t : TypeId} {c0 c1 c2 c3 c4 : Value} (h : w.heap[b]? = some (.cells #[c0, c1, c2, c3, c4] t (0, 0))) :
    w.cell? ⟨b, 0, none⟩ = some c0 ∧ w.cell? ⟨b, 1, none⟩ = some c1 ∧ w.cell? ⟨b, 2, none⟩ = some c2 ∧ w.cell? ⟨b, 3, none⟩ = some c3 ∧ w.cell? ⟨b, 4, none⟩ = some c4 := by
  simp [World.cell?, h]

def OpS.val (x : OpS) : Value := .agg #[.int .u8 x.o.k, .int .i64 x.o.n, .slice x.Ar x.o.r.length x.cr, .slice x.As x.o.s.length x.cs, .slice x.Ap x.o.p.length x.cp]
set_option maxRecDepth 100000 in
set_option maxHeartbeats 1600000 in
theorem sameOs1_any (x z : OpS) (w : World) (h1 : OpIn w x) (h2 : OpIn w z) :
    Calls Tryd.prog 41 #[x.val, z.val] w fun e w' => e = .returned (.bool (decide (x.o = z.o))) ∧ Below w.heap.size w w' := by
  obtain ⟨⟨k, nn, r, s, p⟩, Ar, cr, As, cs, Ap, cp⟩ := x
  obtain ⟨⟨k', nn', r', s', p'⟩, Ar', cr', As', cs', Ap', cp'⟩ := z
  have y1 := ext_alloc w (.cells #[.int .u8 k, .int .i64 nn, .slice Ar r.length cr, .slice As s.length cs, .slice Ap p.length cp] 45)
  have y2 := ext_alloc (w.alloc (.cells #[.int .u8 k, .int .i64 nn, .slice Ar r.length cr, .slice As s.length cs, .slice Ap p.length cp] 45)) (.cells #[.int .u8 k', .int .i64 nn', .slice Ar' r'.length cr', .slice As' s'.length cs', .slice Ap' p'.length cp'] 45)
  have yy := ext_trans y1 y2
  have HB1 := Lib.hid ((y2.block w.heap.size (by simp)).trans (heap_alloc_new w (.cells #[.int .u8 k, .int .i64 nn, .slice Ar r.length cr, .slice As s.length cs, .slice Ap p.length cp] 45)))
  have hb2 := heap_alloc_new (w.alloc (.cells #[.int .u8 k, .int .i64 nn, .slice Ar r.length cr, .slice As s.length cs, .slice Ap p.length cp] 45)) (.cells #[.int .u8 k', .int .i64 nn', .slice Ar' r'.length cr', .slice As' s'.length cs', .slice Ap' p'.length cp'] 45)
  rw [World.size_alloc] at hb2
  have HB2 := Lib.hid hb2
  obtain ⟨a0, a1, a2, a3, a4⟩ := box_op HB1.out
  have Q1 := Lib.hid (h1.ext yy)
  have Q2 := Lib.hid (h2.ext yy)
  have YY := Lib.hid yy
  clear y1 y2 h1 h2 hb2 yy
  simp only [OpS.val]
  generalize hR : decide ((⟨k, nn, r, s, p⟩ : Opd) = ⟨k', nn', r', s', p'⟩) = R
  have HR := Lib.hid hR
  clear hR
  by_cases hk : k = k'
  · subst hk
    by_cases hn : nn = nn'
    · subst hn
      cases hr : decide (r = r') with
      | false =>
        have hne : R = false := by rw [← HR.out]; exact decide_eq_false (fun e => absurd (Opd.mk.inj e).2.2.1 (of_decide_eq_false hr))
        subst hne
        have H := Lib.hid hr
        clear hr
        go_enter Tryd.func41, Tryd.ntmps41
        go_wp2_with (go_at_call 42; refine (equalI_any Ar Ar' r.length r'.length cr cr' r r' _ rfl rfl Q1.out.1 Q2.out.1 Q1.out.2.2.2.1 Q2.out.2.2.2.1).mono ?_; rintro e w1 ⟨rfl, y1⟩; rw [H.out])
        go_ret
        exact ⟨rfl, ext_trans YY.out y1⟩
      | true =>
        have er : r = r' := of_decide_eq_true hr
        subst er
        clear hr
        cases hs : decide (s = s') with
        | false =>
          have hne : R = false := by rw [← HR.out]; exact decide_eq_false (fun e => absurd (Opd.mk.inj e).2.2.2.1 (of_decide_eq_false hs))
          subst hne
          have H := Lib.hid hs
          clear hs
          go_enter Tryd.func41, Tryd.ntmps41
          go_wp2_with (go_at_call 42; refine Hid.out ?_)
          refine Lib.hid ?_
          refine (equalI_any Ar Ar' r.length r.length cr cr' r r _ rfl rfl Q1.out.1 Q2.out.1 Q1.out.2.2.2.1 Q2.out.2.2.2.1).mono ?_
          rintro e w1 ⟨rfl, y1⟩
          rw [decide_eq_true (rfl : r = r)]
          have b2 := Lib.hid ((y1.block w.heap.size (lt_of_some HB1.out)).trans HB1.out)
          have b3 := Lib.hid ((y1.block (w.heap.size + 1) (lt_of_some HB2.out)).trans HB2.out)
          obtain ⟨d0, d1, d2, d3, d4⟩ := box_op b2.out
          obtain ⟨f0, f1, f2, f3, f4⟩ := box_op b3.out
          have P1 := Lib.hid (Q1.out.ext y1)
          have P2 := Lib.hid (Q2.out.ext y1)
          have YZ := Lib.hid (ext_trans YY.out y1)
          go_wp2_with (go_at_call 39; refine Hid.out ?_)
          refine Lib.hid ?_
          refine (attrsSame_any As As' s.length s'.length cs cs' s s' _ rfl rfl P1.out.2.1 P2.out.2.1 P1.out.2.2.2.2.1 P2.out.2.2.2.2.1).mono ?_
          rintro e w2 ⟨rfl, q, rfl⟩
          rw [H.out]
          go_wp2_with (fail)
          go_ret
          exact ⟨rfl, below_drewN YZ.out q⟩
        | true =>
          have es : s = s' := of_decide_eq_true hs
          subst es
          clear hs
          have hp : R = decide (p = p') := by
            rw [← HR.out]
            by_cases h : p = p'
            · subst h; simp
            · rw [decide_eq_false h]; exact decide_eq_false (fun e => h (Opd.mk.inj e).2.2.2.2)
          have HP := Lib.hid hp
          clear hp HR
          go_enter Tryd.func41, Tryd.ntmps41
          go_wp2_with (go_at_call 42; refine Hid.out ?_)
          refine Lib.hid ?_
          refine (equalI_any Ar Ar' r.length r.length cr cr' r r _ rfl rfl Q1.out.1 Q2.out.1 Q1.out.2.2.2.1 Q2.out.2.2.2.1).mono ?_
          rintro e w1 ⟨rfl, y1⟩
          rw [decide_eq_true (rfl : r = r)]
          have b2 := Lib.hid ((y1.block w.heap.size (lt_of_some HB1.out)).trans HB1.out)
          have b3 := Lib.hid ((y1.block (w.heap.size + 1) (lt_of_some HB2.out)).trans HB2.out)
          obtain ⟨d0, d1, d2, d3, d4⟩ := box_op b2.out
          obtain ⟨f0, f1, f2, f3, f4⟩ := box_op b3.out
          have P1 := Lib.hid (Q1.out.ext y1)
          have P2 := Lib.hid (Q2.out.ext y1)
          have YZ := Lib.hid (ext_trans YY.out y1)
          go_wp2_with (go_at_call 39; refine Hid.out ?_)
          refine Lib.hid ?_
          refine (attrsSame_any As As' s.length s.length cs cs' s s _ rfl rfl P1.out.2.1 P2.out.2.1 P1.out.2.2.2.2.1 P2.out.2.2.2.2.1).mono ?_
          rintro e w2 ⟨rfl, q, rfl⟩
          rw [decide_eq_true (rfl : s = s)]
          go_wp2_with (go_at_call 43; refine Hid.out ?_)
          refine Lib.hid ?_
          refine (sameC_any Ap Ap' p.length p'.length cp cp' p p' (w1.drewN q) rfl rfl (P1.out.2.2.1.drewN q) (P2.out.2.2.1.drewN q) P1.out.2.2.2.2.2 P2.out.2.2.2.2.2).mono ?_
          rintro e w3 ⟨rfl, q2, rfl⟩
          rw [← HP.out]
          cases R
          all_goals
            go_wp2_with (fail)
            go_ret
            exact ⟨rfl, below_drewN YZ.out (q + q2)⟩
    · have hne : R = false := by rw [← HR.out]; exact decide_eq_false (fun e => hn (Opd.mk.inj e).2.1)
      subst hne
      have hnn : (nn == nn') = false := beq_eq_false_iff_ne.2 hn
      clear hn
      go_enter Tryd.func41, Tryd.ntmps41
      go_wp2_with (fail)
      go_ret
      exact ⟨rfl, YY.out⟩
  · have hne : R = false := by rw [← HR.out]; exact decide_eq_false (fun e => hk (Opd.mk.inj e).1)
    subst hne
    have hkk : (k == k') = false := beq_eq_false_iff_ne.2 hk
    clear hk
    go_enter Tryd.func41, Tryd.ntmps41
    go_wp2_with (fail)
    go_ret
    exact ⟨rfl, YY.out⟩
set_option maxRecDepth 100000 in
set_option maxHeartbeats 800000 in
theorem equalOs_any (A B : Option Addr) (n m c d : Nat) (l k : List OpS) (w : World) (hn : n = l.length) (hm : m = k.length) (h1 : RdOp w w.heap.size A l) (h2 : RdOp w w.heap.size B k) (hb : n ≤ 100000000) (hb2 : m ≤ 100000000)
    (hs1 : ∀ x ∈ l, x.o.r.length ≤ 140737488355328 ∧ x.o.s.length ≤ 140737488355328 ∧ x.o.p.length ≤ 140737488355328) (hs2 : ∀ x ∈ k, x.o.r.length ≤ 140737488355328 ∧ x.o.s.length ≤ 140737488355328 ∧ x.o.p.length ≤ 140737488355328) :
    Calls Tryd.prog 40 #[.slice A n c, .slice B m d, .func (.func 41) #[] #[]] w fun e w' => e = .returned (.bool (decide (osOf l = osOf k))) ∧ Below w.heap.size w w' := by
  have N := Lib.hid hn
  have M := Lib.hid hm
  have H1 := Lib.hid h1
  have H2 := Lib.hid h2
  have S1 := Lib.hid hs1
  have S2 := Lib.hid hs2
  generalize hR : decide (osOf l = osOf k) = R
  have HR := Lib.hid hR
  clear hn hR hm h1 h2 hs1 hs2
  have HL : Hid (∀ x : List OpS, (osOf x).length = x.length) := Lib.hid (fun x => by unfold osOf; simp)
  by_cases hnm : (n : Int) = m
  · have hnm' : n = m := by omega
    subst hnm'
    clear hnm
    go_enter Tryd.func40, Tryd.ntmps40
    go_wp2_with (fail)
    go_loopg [17] n (fun g iv wr => ∃ i : Nat, i ≤ n ∧ g = n - i ∧ iv = .int .i64 (i : Int) ∧ Below w.heap.size w wr ∧ Hid (decide (osOf (l.drop i) = osOf (k.drop i)) = R))
    case atStart => exact ⟨0, by omega, rfl, rfl, Below.refl _ _, Lib.hid (by rw [List.drop_zero, List.drop_zero]; exact HR.out)⟩
    case round =>
      obtain ⟨i, hi, hg, rfl, y, HI⟩ := hrel
      have HG := Lib.hid hg
      clear hg HR
      by_cases hlt : i < n
      · have hl1 : i < l.length := by have := N.out; omega
        have hl2 : i < k.length := by have := M.out; omega
        obtain ⟨ad, x, rfl, _, hd1, hx1, hc1⟩ := (H1.out.ext y).1.el hl1
        obtain ⟨ad2, x', rfl, had2, hd2, hx2, hc2⟩ := (H2.out.ext y).1.el hl2
        have hm1 := List.mem_of_getElem? hx1
        have hm2 := List.mem_of_getElem? hx2
        have p1 := Lib.hid (show OpIn w x from ⟨(H1.out.2 x hm1).1, (H1.out.2 x hm1).2.1, (H1.out.2 x hm1).2.2, S1.out x hm1⟩)
        have p2 := Lib.hid (show OpIn w x' from ⟨(H2.out.2 x' hm2).1, (H2.out.2 x' hm2).2.1, (H2.out.2 x' hm2).2.2, S2.out x' hm2⟩)
        have HI' : Hid (decide (x.o :: osOf (l.drop (i + 1)) = x'.o :: osOf (k.drop (i + 1))) = R) := Lib.hid (by rw [← HI.out, hd1, hd2]; rfl)
        clear HI hd1 hd2 hx1 hx2 hm1 hm2
        obtain ⟨⟨k1, n1, r1, s1, q1⟩, Ar1, cr1, As1, cs1, Ap1, cp1⟩ := x
        obtain ⟨⟨k2, n2, r2, s2, q2⟩, Ar2, cr2, As2, cs2, Ap2, cp2⟩ := x'
        obtain ⟨z0, z1, z2, z3, z4⟩ := op_cells hc1
        have ya := ext_alloc wr (.cells #[.int .u8 k1, .int .i64 n1, .slice Ar1 r1.length cr1, .slice As1 s1.length cs1, .slice Ap1 q1.length cp1] 45)
        obtain ⟨u0, u1, u2, u3, u4⟩ := op_cells (hc2.keep (w' := wr.alloc (.cells #[.int .u8 k1, .int .i64 n1, .slice Ar1 r1.length cr1, .slice As1 s1.length cs1, .slice Ap1 q1.length cp1] 45)) fun q hq => ya.cell (by rw [hq, add_block]; exact had2))
        clear hc1 hc2 hl1 hl2 had2
        have yb := ext_alloc (wr.alloc (.cells #[.int .u8 k1, .int .i64 n1, .slice Ar1 r1.length cr1, .slice As1 s1.length cs1, .slice Ap1 q1.length cp1] 45)) (.cells #[.int .u8 k2, .int .i64 n2, .slice Ar2 r2.length cr2, .slice As2 s2.length cs2, .slice Ap2 q2.length cp2] 45)
        have y3 := Lib.hid (ext_trans y (ext_trans ya yb))
        clear ya yb
        go_wp2_with (go_at_call 41; refine Hid.out ?_)
        refine Lib.hid ?_
        refine (sameOs1_any ⟨⟨k1, n1, r1, s1, q1⟩, Ar1, cr1, As1, cs1, Ap1, cp1⟩ ⟨⟨k2, n2, r2, s2, q2⟩, Ar2, cr2, As2, cs2, Ap2, cp2⟩ _ (p1.out.ext y3.out) (p2.out.ext y3.out)).mono ?_
        rintro e w' ⟨he, y4⟩
        simp only at he
        subst he
        have yy := ext_trans y3.out y4
        have hw2 : IntKind.i64.wrap ((i:Int) + 1) = (i : Int) + 1 := IntWalk.i64_in _ (by omega)
        by_cases hxy : (⟨k1, n1, r1, s1, q1⟩ : Opd) = ⟨k2, n2, r2, s2, q2⟩
        · have HXY := Lib.hid hxy
          rw [decide_eq_true hxy]
          clear hxy
          go_wp2_with (fail)
          go_roundg (n - (i + 1))
          case measure => have := HG.out; omega
          case rel => exact ⟨i + 1, by omega, rfl, by go_num, yy, Lib.hid (by rw [← HI'.out]; simp only [List.cons.injEq, HXY.out, true_and])⟩
        · have HXY := Lib.hid hxy
          rw [decide_eq_false hxy]
          clear hxy
          go_wp2_with (fail)
          go_ret
          exact ⟨ret_bool (by rw [← HI'.out]; exact (decide_eq_false fun e => HXY.out (List.cons.inj e).1).symm), yy⟩
      · go_wp2_with (fail)
        go_ret
        exact ⟨ret_bool (by rw [← HI.out, List.drop_eq_nil_of_le (by have := N.out; omega), List.drop_eq_nil_of_le (by have := M.out; omega)]; rfl), y⟩
  · have hne : ((n : Int) == m) = false := beq_eq_false_iff_ne.2 hnm
    go_enter Tryd.func40, Tryd.ntmps40
    go_wp2_with (fail)
    go_ret
    refine ⟨ret_bool ?_, Below.refl _ _⟩
    rw [← HR.out]
    refine (decide_eq_false fun e => ?_).symm
    have h3 := N.out
    have h4 := M.out
    have h5 := congrArg List.length e
    rw [HL.out, HL.out] at h5
    omega
set_option maxHeartbeats 400000 in
theorem opsSame_any (A B : Option Addr) (n m c d : Nat) (l k : List OpS) (w : World) (hn : n = l.length) (hm : m = k.length) (h1 : RdOp w w.heap.size A l) (h2 : RdOp w w.heap.size B k) (hb : n ≤ 100000000) (hb2 : m ≤ 100000000)
    (hs1 : ∀ x ∈ l, x.o.r.length ≤ 140737488355328 ∧ x.o.s.length ≤ 140737488355328 ∧ x.o.p.length ≤ 140737488355328) (hs2 : ∀ x ∈ k, x.o.r.length ≤ 140737488355328 ∧ x.o.s.length ≤ 140737488355328 ∧ x.o.p.length ≤ 140737488355328) :
    Calls Tryd.prog 12 #[.slice A n c, .slice B m d] w fun e w' => e = .returned (.bool (decide (osOf l = osOf k))) ∧ Below w.heap.size w w' := by
  have H := Lib.hid (equalOs_any A B n m c d l k w hn hm h1 h2 hb hb2 hs1 hs2)
  clear hn hm h1 h2 hs1 hs2
  generalize decide (osOf l = osOf k) = R at *
  go_enter Tryd.func12, Tryd.ntmps12
  go_wp2_with (go_at_call 40; refine Hid.out ?_)
  refine Lib.hid ?_
  refine H.out.mono ?_
  rintro e w' ⟨rfl, y⟩
  go_wp2_with (fail)
  go_ret
  exact ⟨rfl, y⟩

end Go.Proofs.YtipoeidmblnbbaaDoor
