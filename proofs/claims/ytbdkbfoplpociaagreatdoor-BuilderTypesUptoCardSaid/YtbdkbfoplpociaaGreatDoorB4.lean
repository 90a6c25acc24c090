/- Merged texts: Sift, Typed, TypedLaw. -/
import Derived.Deep.LoopGhost
import Derived.Deep.DeepMust
import Derived.Test.YtbdkbfoplpociaaGreatDoorK8
import Derived.Test.YtbdkbfoplpociaaGreatDoorB2
import Derived.Test.YtbdkbfoplpociaaGreatDoorK16
namespace Go.Proofs.YtbdkbfoplpociaaGreatDoor
open Go.RowKit
set_option linter.unusedVariables false
set_option linter.unusedSimpArgs false

/-- the attributes whose keys are so -/
def siftP (l : List Ky) (pr : Ky → Bool) (s : List At) : List At := s.filter (fun a => match findK l a.key with | some k => pr k | none => false)
def splitK (k : Ky) : Bool := k.block && k.after
def afterK (k : Ky) : Bool := !k.block && k.after
def beforeK (k : Ky) : Bool := !k.block && k.before
theorem sift_drop {l : List Ky} {pr : Ky → Bool} {s : List At} {m : Nat} {x : At} {r R : List At} (hd : s.drop m = x :: s.drop (m + 1)) (h : r ++ siftP l pr (s.drop m) = R) :
    (match findK l x.key with | some k => pr k | none => false) = true ∧ (r ++ [x]) ++ siftP l pr (s.drop (m + 1)) = R ∨ (match findK l x.key with | some k => pr k | none => false) = false ∧ r ++ siftP l pr (s.drop (m + 1)) = R := by
  rw [hd] at h
  unfold siftP at h ⊢
  rw [List.filter_cons] at h
  cases hp : (match findK l x.key with | some k => pr k | none => false) with
  | true => rw [hp, if_pos rfl] at h; exact .inl ⟨rfl, by rw [← h]; simp⟩
  | false => rw [hp] at h; simp only [Bool.false_eq_true, if_false] at h; exact .inr ⟨rfl, h⟩

set_option maxHeartbeats 400000 in
theorem splitCl_any (i q kd : Int) (c d f : Bool) (w : World) :
    Calls Tryz.prog 216 #[.agg #[.int .i64 i, .bool c, .int .u8 kd, .bool d, .bool f, .int .i64 q]] w fun e w' => e = .returned (.bool (splitK ⟨i, c, kd, d, f, q⟩)) ∧ Below w.heap.size w w' := by
  cases c
  all_goals
    go_enter Tryz.func216, Tryz.ntmps216
    go_wp2_with (fail)
    go_ret
    exact ⟨ret_bool (by simp [splitK]), ext_alloc w _⟩
set_option maxRecDepth 100000 in
set_option maxHeartbeats 1600000 in
theorem sift_split (s : Nat) (l : List Ky) (A : Option Addr) (n c : Nat) (set : List At) (w : World) (hn : n = set.length) (h : RdAt w w.heap.size A set) (hb : n ≤ 100000000) (hS : Sch w s l) :
    Calls Tryz.prog 211 #[.pointer (some ⟨s, 0, none⟩), .slice A n c, .func (.func 216) #[] #[]] w (NewAt (siftP l splitK set) w) := by
  have N := Lib.hid hn
  have HS := Lib.hid hS
  generalize hR : siftP l splitK set = R
  have HR := Lib.hid hR
  clear hn hR hS
  go_enter Tryz.func211, Tryz.ntmps211
  go_wp2_with (fail)
  go_loopg [7, 14] n (fun g ov iv wr => ∃ (m : Nat) (r : List At), m ≤ n ∧ g = n - m ∧ iv = .int .i64 (m : Int) ∧ OwAt wr w.heap.size ov r ∧ r.length ≤ m ∧ Below w.heap.size w wr ∧ Hid (r ++ siftP l splitK (set.drop m) = R))
  case atStart => exact ⟨0, [], by omega, rfl, rfl, Ow.nil _ _, by simp, Below.refl _ _, Lib.hid (by simpa using HR.out)⟩
  case round =>
    obtain ⟨m, r, hm, hg, rfl, hown, hrl, y, HI⟩ := hrel
    have HG := Lib.hid hg
    clear hg HR
    by_cases hlt : m < n
    · have hl1 : m < set.length := by have := N.out; omega
      obtain ⟨ad, x, rfl, had, hd1, _, hc0⟩ := (h.below y (Nat.le_refl _)).el hl1
      have hst := sift_drop hd1 HI.out
      obtain ⟨x1, x2, x3, x4, x5⟩ := x
      obtain ⟨r0, r1, r2, r3, r4⟩ := at_cells hc0
      have HST := Lib.hid hst
      clear hst hc0 hd1 HI
      have y1 := ext_alloc wr (.cells #[.int .i64 x1, .int .u8 x2, .int .i64 x3, .int .u64 x4, .string x5] 53)
      have hbx := heap_alloc_new wr (.cells #[.int .i64 x1, .int .u8 x2, .int .i64 x3, .int .u64 x4, .string x5] 53)
      have HBX := Lib.hid hbx
      have how1 := hown.below y1 (Nat.le_refl _)
      have hwb : wb u7 ≠ some wr.heap.size := fun e => by have := (hown.wb_lt _ e).2; omega
      have HOW := Lib.hid how1
      have HWB := Lib.hid hwb
      have y2 := ext_trans y y1
      clear hbx hown how1 hwb
      have hw2 : IntKind.i64.wrap ((m:Int) + 1) = (m : Int) + 1 := IntWalk.i64_in _ (by omega)
      go_wp2_with (go_at_call 82; refine Hid.out ?_)
      refine Lib.hid ?_
      refine (findS_any s l x1 _ (HS.out.ext y2)).mono ?_
      rintro e w1 ⟨i, k1, kd, k2, k3, q, ok, rfl, hk, hbk, y3⟩
      have y4 := ext_alloc w1 (.cells #[.int .i64 i, .bool k1, .int .u8 kd, .bool k2, .bool k3, .int .i64 q] 112)
      have hbx2 := (ext_trans y3 y4).block _ (lt_of_some HBX.out) |>.trans HBX.out
      have HOW2 := Lib.hid (HOW.out.below (ext_trans y3 y4) (Nat.le_refl _))
      have HBX2 := Lib.hid hbx2
      have y5 := ext_trans y2 (ext_trans y3 y4)
      have HK := Lib.hid hk
      have HB := Lib.hid hbk
      clear hk hbk r0 r1 r2 r3 r4
      cases ok with
      | false =>
        have HN : Hid (r ++ siftP l splitK (set.drop (m + 1)) = R) := Lib.hid (by
          have h1 := HB.out
          rcases HST.out with ⟨h2, h3⟩ | ⟨h2, h3⟩
          · cases hq : findK l x1 with
            | none => simp only [hq] at h2; cases h2
            | some k => rw [hq] at h1; cases h1
          · exact h3)
        clear hbx2
        go_wp2_with (fail)
        go_roundg (n - (m + 1))
        case measure => have := HG.out; omega
        case rel => exact ⟨m + 1, r, by omega, rfl, by go_num, HOW2.out, by omega, y5, HN⟩
      | true =>
        have HP : Hid (splitK ⟨i, k1, kd, k2, k3, q⟩ = true ∧ (r ++ [⟨x1, ⟨x2, x3, x4, x5⟩⟩]) ++ siftP l splitK (set.drop (m + 1)) = R ∨ splitK ⟨i, k1, kd, k2, k3, q⟩ = false ∧ r ++ siftP l splitK (set.drop (m + 1)) = R) := Lib.hid (by
          have h1 := HB.out
          have h4 := HK.out
          cases hq : findK l x1 with
          | none => rw [hq] at h1; cases h1
          | some k =>
            rw [hq] at h4
            simp only [Option.getD_some] at h4
            subst h4
            have h5 := HST.out
            simp only [hq] at h5
            exact h5)
        have hb3 := heap_alloc_new w1 (.cells #[.int .i64 i, .bool k1, .int .u8 kd, .bool k2, .bool k3, .int .i64 q] 112)
        obtain ⟨a0, a1, a2, a3, a4, a5⟩ := box_ky hb3
        clear hbx2 hb3
        go_wp2_with (go_at_call 216; refine Hid.out ?_)
        refine Lib.hid ?_
        refine (splitCl_any i q kd k1 k2 k3 _).mono ?_
        rintro e w3 ⟨rfl, y6⟩
        clear a0 a1 a2 a3 a4 a5
        have hbx3 := (y6.block _ (lt_of_some HBX2.out)).trans HBX2.out
        have HOW3 := Lib.hid (HOW2.out.below y6 (Nat.le_refl _))
        have y7 := ext_trans y5 y6
        obtain ⟨c0, c1, c2, c3, c4⟩ := box_at hbx3
        obtain ⟨P, hP⟩ : ∃ P, splitK ⟨i, k1, kd, k2, k3, q⟩ = P := ⟨_, rfl⟩
        rw [hP] at HP ⊢
        clear hbx3 hP
        cases P with
        | false =>
          go_wp2_with (fail)
          go_roundg (n - (m + 1))
          case measure => have := HG.out; omega
          case rel => exact ⟨m + 1, r, by omega, rfl, by go_num, HOW3.out, by omega, y7, Lib.hid (by rcases HP.out with ⟨h, _⟩ | ⟨_, h⟩; cases h; exact h)⟩
        | true =>
          go_wp2_with (at_builtin; refine app_at (m := [⟨x1, ⟨x2, x3, x4, x5⟩⟩]) rfl (.tmp 31) (.tmp 33) rfl rfl (by exact HOW3.out.alloc _) _ _ 1 1 rfl rfl (by exact rd_one _ _ _ rfl) (by simp only [List.length_singleton]; omega) (by have := y7.size; simp; omega) ?_; intro v' w' hown' hgr hv')
          have s1 := below_app (y7.alloc y7.size _) (by have := y7.size; simp; omega) (HOW3.out.alloc _) (Nat.le_refl _) hgr
          go_roundg (n - (m + 1))
          case measure => have := HG.out; omega
          case rel => exact ⟨m + 1, r ++ [⟨x1, ⟨x2, x3, x4, x5⟩⟩], by omega, rfl, by go_num, hown', by simp; omega, s1, Lib.hid (by rcases HP.out with ⟨_, h⟩ | ⟨h, _⟩; exact h; cases h)⟩
    · have hmn : m = n := by omega
      have hR : r = R := by
        have h := HI.out
        rw [List.drop_eq_nil_of_le (by have := N.out; omega)] at h
        simpa [siftP] using h
      subst hR
      obtain ⟨A', c', rfl, _, _⟩ := hown.form
      have HOW := Lib.hid hown
      clear hown
      go_wp2_with (fail)
      go_ret
      exact ⟨A', c', rfl, HOW.out, y⟩

set_option maxHeartbeats 400000 in
theorem afterCl_any (i q kd : Int) (c d f : Bool) (w : World) :
    Calls Tryz.prog 212 #[.agg #[.int .i64 i, .bool c, .int .u8 kd, .bool d, .bool f, .int .i64 q]] w fun e w' => e = .returned (.bool (afterK ⟨i, c, kd, d, f, q⟩)) ∧ Below w.heap.size w w' := by
  cases c
  all_goals
    go_enter Tryz.func212, Tryz.ntmps212
    go_wp2_with (fail)
    go_ret
    exact ⟨ret_bool (by simp [afterK]), ext_alloc w _⟩
set_option maxRecDepth 100000 in
set_option maxHeartbeats 1600000 in
theorem sift_after (s : Nat) (l : List Ky) (A : Option Addr) (n c : Nat) (set : List At) (w : World) (hn : n = set.length) (h : RdAt w w.heap.size A set) (hb : n ≤ 100000000) (hS : Sch w s l) :
    Calls Tryz.prog 211 #[.pointer (some ⟨s, 0, none⟩), .slice A n c, .func (.func 212) #[] #[]] w (NewAt (siftP l afterK set) w) := by
  have N := Lib.hid hn
  have HS := Lib.hid hS
  generalize hR : siftP l afterK set = R
  have HR := Lib.hid hR
  clear hn hR hS
  go_enter Tryz.func211, Tryz.ntmps211
  go_wp2_with (fail)
  go_loopg [7, 14] n (fun g ov iv wr => ∃ (m : Nat) (r : List At), m ≤ n ∧ g = n - m ∧ iv = .int .i64 (m : Int) ∧ OwAt wr w.heap.size ov r ∧ r.length ≤ m ∧ Below w.heap.size w wr ∧ Hid (r ++ siftP l afterK (set.drop m) = R))
  case atStart => exact ⟨0, [], by omega, rfl, rfl, Ow.nil _ _, by simp, Below.refl _ _, Lib.hid (by simpa using HR.out)⟩
  case round =>
    obtain ⟨m, r, hm, hg, rfl, hown, hrl, y, HI⟩ := hrel
    have HG := Lib.hid hg
    clear hg HR
    by_cases hlt : m < n
    · have hl1 : m < set.length := by have := N.out; omega
      obtain ⟨ad, x, rfl, had, hd1, _, hc0⟩ := (h.below y (Nat.le_refl _)).el hl1
      have hst := sift_drop hd1 HI.out
      obtain ⟨x1, x2, x3, x4, x5⟩ := x
      obtain ⟨r0, r1, r2, r3, r4⟩ := at_cells hc0
      have HST := Lib.hid hst
      clear hst hc0 hd1 HI
      have y1 := ext_alloc wr (.cells #[.int .i64 x1, .int .u8 x2, .int .i64 x3, .int .u64 x4, .string x5] 53)
      have hbx := heap_alloc_new wr (.cells #[.int .i64 x1, .int .u8 x2, .int .i64 x3, .int .u64 x4, .string x5] 53)
      have HBX := Lib.hid hbx
      have how1 := hown.below y1 (Nat.le_refl _)
      have hwb : wb u7 ≠ some wr.heap.size := fun e => by have := (hown.wb_lt _ e).2; omega
      have HOW := Lib.hid how1
      have HWB := Lib.hid hwb
      have y2 := ext_trans y y1
      clear hbx hown how1 hwb
      have hw2 : IntKind.i64.wrap ((m:Int) + 1) = (m : Int) + 1 := IntWalk.i64_in _ (by omega)
      go_wp2_with (go_at_call 82; refine Hid.out ?_)
      refine Lib.hid ?_
      refine (findS_any s l x1 _ (HS.out.ext y2)).mono ?_
      rintro e w1 ⟨i, k1, kd, k2, k3, q, ok, rfl, hk, hbk, y3⟩
      have y4 := ext_alloc w1 (.cells #[.int .i64 i, .bool k1, .int .u8 kd, .bool k2, .bool k3, .int .i64 q] 112)
      have hbx2 := (ext_trans y3 y4).block _ (lt_of_some HBX.out) |>.trans HBX.out
      have HOW2 := Lib.hid (HOW.out.below (ext_trans y3 y4) (Nat.le_refl _))
      have HBX2 := Lib.hid hbx2
      have y5 := ext_trans y2 (ext_trans y3 y4)
      have HK := Lib.hid hk
      have HB := Lib.hid hbk
      clear hk hbk r0 r1 r2 r3 r4
      cases ok with
      | false =>
        have HN : Hid (r ++ siftP l afterK (set.drop (m + 1)) = R) := Lib.hid (by
          have h1 := HB.out
          rcases HST.out with ⟨h2, h3⟩ | ⟨h2, h3⟩
          · cases hq : findK l x1 with
            | none => simp only [hq] at h2; cases h2
            | some k => rw [hq] at h1; cases h1
          · exact h3)
        clear hbx2
        go_wp2_with (fail)
        go_roundg (n - (m + 1))
        case measure => have := HG.out; omega
        case rel => exact ⟨m + 1, r, by omega, rfl, by go_num, HOW2.out, by omega, y5, HN⟩
      | true =>
        have HP : Hid (afterK ⟨i, k1, kd, k2, k3, q⟩ = true ∧ (r ++ [⟨x1, ⟨x2, x3, x4, x5⟩⟩]) ++ siftP l afterK (set.drop (m + 1)) = R ∨ afterK ⟨i, k1, kd, k2, k3, q⟩ = false ∧ r ++ siftP l afterK (set.drop (m + 1)) = R) := Lib.hid (by
          have h1 := HB.out
          have h4 := HK.out
          cases hq : findK l x1 with
          | none => rw [hq] at h1; cases h1
          | some k =>
            rw [hq] at h4
            simp only [Option.getD_some] at h4
            subst h4
            have h5 := HST.out
            simp only [hq] at h5
            exact h5)
        have hb3 := heap_alloc_new w1 (.cells #[.int .i64 i, .bool k1, .int .u8 kd, .bool k2, .bool k3, .int .i64 q] 112)
        obtain ⟨a0, a1, a2, a3, a4, a5⟩ := box_ky hb3
        clear hbx2 hb3
        go_wp2_with (go_at_call 212; refine Hid.out ?_)
        refine Lib.hid ?_
        refine (afterCl_any i q kd k1 k2 k3 _).mono ?_
        rintro e w3 ⟨rfl, y6⟩
        clear a0 a1 a2 a3 a4 a5
        have hbx3 := (y6.block _ (lt_of_some HBX2.out)).trans HBX2.out
        have HOW3 := Lib.hid (HOW2.out.below y6 (Nat.le_refl _))
        have y7 := ext_trans y5 y6
        obtain ⟨c0, c1, c2, c3, c4⟩ := box_at hbx3
        obtain ⟨P, hP⟩ : ∃ P, afterK ⟨i, k1, kd, k2, k3, q⟩ = P := ⟨_, rfl⟩
        rw [hP] at HP ⊢
        clear hbx3 hP
        cases P with
        | false =>
          go_wp2_with (fail)
          go_roundg (n - (m + 1))
          case measure => have := HG.out; omega
          case rel => exact ⟨m + 1, r, by omega, rfl, by go_num, HOW3.out, by omega, y7, Lib.hid (by rcases HP.out with ⟨h, _⟩ | ⟨_, h⟩; cases h; exact h)⟩
        | true =>
          go_wp2_with (at_builtin; refine app_at (m := [⟨x1, ⟨x2, x3, x4, x5⟩⟩]) rfl (.tmp 31) (.tmp 33) rfl rfl (by exact HOW3.out.alloc _) _ _ 1 1 rfl rfl (by exact rd_one _ _ _ rfl) (by simp only [List.length_singleton]; omega) (by have := y7.size; simp; omega) ?_; intro v' w' hown' hgr hv')
          have s1 := below_app (y7.alloc y7.size _) (by have := y7.size; simp; omega) (HOW3.out.alloc _) (Nat.le_refl _) hgr
          go_roundg (n - (m + 1))
          case measure => have := HG.out; omega
          case rel => exact ⟨m + 1, r ++ [⟨x1, ⟨x2, x3, x4, x5⟩⟩], by omega, rfl, by go_num, hown', by simp; omega, s1, Lib.hid (by rcases HP.out with ⟨_, h⟩ | ⟨h, _⟩; exact h; cases h)⟩
    · have hmn : m = n := by omega
      have hR : r = R := by
        have h := HI.out
        rw [List.drop_eq_nil_of_le (by have := N.out; omega)] at h
        simpa [siftP] using h
      subst hR
      obtain ⟨A', c', rfl, _, _⟩ := hown.form
      have HOW := Lib.hid hown
      clear hown
      go_wp2_with (fail)
      go_ret
      exact ⟨A', c', rfl, HOW.out, y⟩

set_option maxHeartbeats 400000 in
theorem beforeCl_any (i q kd : Int) (c d f : Bool) (w : World) :
    Calls Tryz.prog 213 #[.agg #[.int .i64 i, .bool c, .int .u8 kd, .bool d, .bool f, .int .i64 q]] w fun e w' => e = .returned (.bool (beforeK ⟨i, c, kd, d, f, q⟩)) ∧ Below w.heap.size w w' := by
  cases c
  all_goals
    go_enter Tryz.func213, Tryz.ntmps213
    go_wp2_with (fail)
    go_ret
    exact ⟨ret_bool (by simp [beforeK]), ext_alloc w _⟩
set_option maxRecDepth 100000 in
set_option maxHeartbeats 1600000 in
theorem sift_before (s : Nat) (l : List Ky) (A : Option Addr) (n c : Nat) (set : List At) (w : World) (hn : n = set.length) (h : RdAt w w.heap.size A set) (hb : n ≤ 100000000) (hS : Sch w s l) :
    Calls Tryz.prog 211 #[.pointer (some ⟨s, 0, none⟩), .slice A n c, .func (.func 213) #[] #[]] w (NewAt (siftP l beforeK set) w) := by
  have N := Lib.hid hn
  have HS := Lib.hid hS
  generalize hR : siftP l beforeK set = R
  have HR := Lib.hid hR
  clear hn hR hS
  go_enter Tryz.func211, Tryz.ntmps211
  go_wp2_with (fail)
  go_loopg [7, 14] n (fun g ov iv wr => ∃ (m : Nat) (r : List At), m ≤ n ∧ g = n - m ∧ iv = .int .i64 (m : Int) ∧ OwAt wr w.heap.size ov r ∧ r.length ≤ m ∧ Below w.heap.size w wr ∧ Hid (r ++ siftP l beforeK (set.drop m) = R))
  case atStart => exact ⟨0, [], by omega, rfl, rfl, Ow.nil _ _, by simp, Below.refl _ _, Lib.hid (by simpa using HR.out)⟩
  case round =>
    obtain ⟨m, r, hm, hg, rfl, hown, hrl, y, HI⟩ := hrel
    have HG := Lib.hid hg
    clear hg HR
    by_cases hlt : m < n
    · have hl1 : m < set.length := by have := N.out; omega
      obtain ⟨ad, x, rfl, had, hd1, _, hc0⟩ := (h.below y (Nat.le_refl _)).el hl1
      have hst := sift_drop hd1 HI.out
      obtain ⟨x1, x2, x3, x4, x5⟩ := x
      obtain ⟨r0, r1, r2, r3, r4⟩ := at_cells hc0
      have HST := Lib.hid hst
      clear hst hc0 hd1 HI
      have y1 := ext_alloc wr (.cells #[.int .i64 x1, .int .u8 x2, .int .i64 x3, .int .u64 x4, .string x5] 53)
      have hbx := heap_alloc_new wr (.cells #[.int .i64 x1, .int .u8 x2, .int .i64 x3, .int .u64 x4, .string x5] 53)
      have HBX := Lib.hid hbx
      have how1 := hown.below y1 (Nat.le_refl _)
      have hwb : wb u7 ≠ some wr.heap.size := fun e => by have := (hown.wb_lt _ e).2; omega
      have HOW := Lib.hid how1
      have HWB := Lib.hid hwb
      have y2 := ext_trans y y1
      clear hbx hown how1 hwb
      have hw2 : IntKind.i64.wrap ((m:Int) + 1) = (m : Int) + 1 := IntWalk.i64_in _ (by omega)
      go_wp2_with (go_at_call 82; refine Hid.out ?_)
      refine Lib.hid ?_
      refine (findS_any s l x1 _ (HS.out.ext y2)).mono ?_
      rintro e w1 ⟨i, k1, kd, k2, k3, q, ok, rfl, hk, hbk, y3⟩
      have y4 := ext_alloc w1 (.cells #[.int .i64 i, .bool k1, .int .u8 kd, .bool k2, .bool k3, .int .i64 q] 112)
      have hbx2 := (ext_trans y3 y4).block _ (lt_of_some HBX.out) |>.trans HBX.out
      have HOW2 := Lib.hid (HOW.out.below (ext_trans y3 y4) (Nat.le_refl _))
      have HBX2 := Lib.hid hbx2
      have y5 := ext_trans y2 (ext_trans y3 y4)
      have HK := Lib.hid hk
      have HB := Lib.hid hbk
      clear hk hbk r0 r1 r2 r3 r4
      cases ok with
      | false =>
        have HN : Hid (r ++ siftP l beforeK (set.drop (m + 1)) = R) := Lib.hid (by
          have h1 := HB.out
          rcases HST.out with ⟨h2, h3⟩ | ⟨h2, h3⟩
          · cases hq : findK l x1 with
            | none => simp only [hq] at h2; cases h2
            | some k => rw [hq] at h1; cases h1
          · exact h3)
        clear hbx2
        go_wp2_with (fail)
        go_roundg (n - (m + 1))
        case measure => have := HG.out; omega
        case rel => exact ⟨m + 1, r, by omega, rfl, by go_num, HOW2.out, by omega, y5, HN⟩
      | true =>
        have HP : Hid (beforeK ⟨i, k1, kd, k2, k3, q⟩ = true ∧ (r ++ [⟨x1, ⟨x2, x3, x4, x5⟩⟩]) ++ siftP l beforeK (set.drop (m + 1)) = R ∨ beforeK ⟨i, k1, kd, k2, k3, q⟩ = false ∧ r ++ siftP l beforeK (set.drop (m + 1)) = R) := Lib.hid (by
          have h1 := HB.out
          have h4 := HK.out
          cases hq : findK l x1 with
          | none => rw [hq] at h1; cases h1
          | some k =>
            rw [hq] at h4
            simp only [Option.getD_some] at h4
            subst h4
            have h5 := HST.out
            simp only [hq] at h5
            exact h5)
        have hb3 := heap_alloc_new w1 (.cells #[.int .i64 i, .bool k1, .int .u8 kd, .bool k2, .bool k3, .int .i64 q] 112)
        obtain ⟨a0, a1, a2, a3, a4, a5⟩ := box_ky hb3
        clear hbx2 hb3
        go_wp2_with (go_at_call 213; refine Hid.out ?_)
        refine Lib.hid ?_
        refine (beforeCl_any i q kd k1 k2 k3 _).mono ?_
        rintro e w3 ⟨rfl, y6⟩
        clear a0 a1 a2 a3 a4 a5
        have hbx3 := (y6.block _ (lt_of_some HBX2.out)).trans HBX2.out
        have HOW3 := Lib.hid (HOW2.out.below y6 (Nat.le_refl _))
        have y7 := ext_trans y5 y6
        obtain ⟨c0, c1, c2, c3, c4⟩ := box_at hbx3
        obtain ⟨P, hP⟩ : ∃ P, beforeK ⟨i, k1, kd, k2, k3, q⟩ = P := ⟨_, rfl⟩
        rw [hP] at HP ⊢
        clear hbx3 hP
        cases P with
        | false =>
          go_wp2_with (fail)
          go_roundg (n - (m + 1))
          case measure => have := HG.out; omega
          case rel => exact ⟨m + 1, r, by omega, rfl, by go_num, HOW3.out, by omega, y7, Lib.hid (by rcases HP.out with ⟨h, _⟩ | ⟨_, h⟩; cases h; exact h)⟩
        | true =>
          go_wp2_with (at_builtin; refine app_at (m := [⟨x1, ⟨x2, x3, x4, x5⟩⟩]) rfl (.tmp 31) (.tmp 33) rfl rfl (by exact HOW3.out.alloc _) _ _ 1 1 rfl rfl (by exact rd_one _ _ _ rfl) (by simp only [List.length_singleton]; omega) (by have := y7.size; simp; omega) ?_; intro v' w' hown' hgr hv')
          have s1 := below_app (y7.alloc y7.size _) (by have := y7.size; simp; omega) (HOW3.out.alloc _) (Nat.le_refl _) hgr
          go_roundg (n - (m + 1))
          case measure => have := HG.out; omega
          case rel => exact ⟨m + 1, r ++ [⟨x1, ⟨x2, x3, x4, x5⟩⟩], by omega, rfl, by go_num, hown', by simp; omega, s1, Lib.hid (by rcases HP.out with ⟨_, h⟩ | ⟨h, _⟩; exact h; cases h)⟩
    · have hmn : m = n := by omega
      have hR : r = R := by
        have h := HI.out
        rw [List.drop_eq_nil_of_le (by have := N.out; omega)] at h
        simpa [siftP] using h
      subst hR
      obtain ⟨A', c', rfl, _, _⟩ := hown.form
      have HOW := Lib.hid hown
      clear hown
      go_wp2_with (fail)
      go_ret
      exact ⟨A', c', rfl, HOW.out, y⟩

set_option maxHeartbeats 800000 in
theorem split_any (s : Nat) (l : List Ky) (A : Option Addr) (n c : Nat) (set : List At) (w : World) (hn : n = set.length) (h : RdAt w w.heap.size A set) (hb : n ≤ 100000000) (hS : Sch w s l) :
    Calls Tryz.prog 158 #[.pointer (some ⟨s, 0, none⟩), .slice A n c] w (NewAt (siftP l splitK set) w) := by
  have N := Lib.hid hn
  clear hn
  generalize hR : siftP l splitK set = R
  have HR := Lib.hid hR
  clear hR
  go_enter Tryz.func158, Tryz.ntmps158
  go_wp2_with (go_at_call 211; refine Hid.out ?_)
  refine Lib.hid ?_
  refine (sift_split s l A n c set w N.out h hb hS).mono ?_
  rintro e w1 ⟨A1, c1, rfl, ho, y⟩
  rw [HR.out] at ho ⊢
  have HO := Lib.hid ho
  clear ho
  go_wp2_with (fail)
  go_ret
  exact ⟨A1, c1, rfl, HO.out, y⟩
end Go.Proofs.YtbdkbfoplpociaaGreatDoor
namespace Go.Proofs.YtbdkbfoplpociaaGreatDoor
open Go.RowKit
set_option linter.unusedVariables false
set_option linter.unusedSimpArgs false

/-- what a typed rune has -/
def typedP (l : List Ky) (a b : List At) : List At := (siftP l beforeK b).foldl stepB (siftP l afterK a)
theorem sift_rise {l : List Ky} {pr : Ky → Bool} {s : List At} (h : riseA s = true) : riseA (siftP l pr s) = true := riseA_srt.2 ((riseA_srt.1 h).filter At.key _)
theorem sift_len (l : List Ky) (pr : Ky → Bool) (s : List At) : (siftP l pr s).length ≤ s.length := List.length_filter_le _ _
/-- what rules.Typed answers -/
def TypedOut (l : List Ky) (a b : List At) (w : World) (e : Ending) (w' : World) : Prop :=
  ∃ r, (riseA a = true → r = typedP l a b) ∧ r.length ≤ a.length + b.length ∧ NewAt r w e w'
theorem stepB_drop {sb s R : List At} {m : Nat} {x : At} {Q : Prop} (hd : sb.drop m = x :: sb.drop (m + 1)) (h : Q → riseA s = true ∧ (sb.drop m).foldl stepB s = R) : Q → riseA s = true ∧ (sb.drop (m + 1)).foldl stepB (stepB s x) = R := by
  intro q
  obtain ⟨h1, h2⟩ := h q
  rw [hd] at h2
  exact ⟨h1, h2⟩
set_option maxRecDepth 100000 in
set_option maxHeartbeats 1600000 in
theorem typed_any (s : Nat) (l : List Ky) (A B : Option Addr) (n k c d : Nat) (a b : List At) (w : World) (hn : n = a.length) (hk : k = b.length) (h1 : RdAt w w.heap.size A a) (h2 : RdAt w w.heap.size B b) (hb : n ≤ 1000000) (hb2 : k ≤ 1000000) (hS : Sch w s l) :
    Calls Tryz.prog 157 #[.pointer (some ⟨s, 0, none⟩), .slice A n c, .slice B k d] w (TypedOut l a b w) := by
  have N := Lib.hid hn
  have K := Lib.hid hk
  obtain ⟨R, hR⟩ : ∃ X, typedP l a b = X := ⟨_, rfl⟩
  obtain ⟨sa, hsa⟩ : ∃ X, siftP l afterK a = X := ⟨_, rfl⟩
  obtain ⟨sb, hsb⟩ : ∃ X, siftP l beforeK b = X := ⟨_, rfl⟩
  have la : sa.length ≤ n := by rw [← hsa, hn]; exact sift_len _ _ _
  have lb : sb.length ≤ k := by rw [← hsb, hk]; exact sift_len _ _ _
  have HR0 : Hid (riseA a = true → riseA sa = true ∧ sb.foldl stepB sa = R) := Lib.hid (fun h => ⟨by rw [← hsa]; exact sift_rise h, by rw [← hR, ← hsa, ← hsb]; rfl⟩)
  have SA := Lib.hid hsa
  have SB := Lib.hid hsb
  have RR := Lib.hid hR
  clear hn hk hsa hsb hR
  go_enter Tryz.func157, Tryz.ntmps157
  go_wp2_with (go_at_call 211; refine Hid.out ?_)
  refine Lib.hid ?_
  refine (sift_after s l A n c a w N.out h1 (by omega) hS).mono ?_
  rintro e w1 ⟨A1, c1, rfl, ho1, y1⟩
  rw [SA.out] at ho1 ⊢
  have HO1 := Lib.hid ho1
  clear ho1
  go_wp2_with (go_at_call 211; refine Hid.out ?_)
  refine Lib.hid ?_
  refine (sift_before s l B k d b w1 K.out (h2.ext y1) (by omega) (hS.ext y1)).mono ?_
  rintro e w2 ⟨A2, c2, rfl, ho2, y2⟩
  rw [SB.out] at ho2 ⊢
  have y := ext_trans y1 y2
  have rb := ho2.rd At.enc_len
  have HO2 := Lib.hid (HO1.out.below y2 (Nat.le_refl _))
  clear ho2
  obtain ⟨k2, hk2⟩ : ∃ k2, k2 = sb.length := ⟨_, rfl⟩
  rw [← hk2] at lb ⊢
  have K2 := Lib.hid hk2
  clear hk2
  go_wp2_with (fail)
  go_loopg [7, 19] k2 (fun g ov iv wr => ∃ (m : Nat) (r : List At) (A7 : Option Addr) (c7 : Nat), m ≤ k2 ∧ g = k2 - m ∧ ov = .slice A7 r.length c7 ∧ iv = .int .i64 (m : Int) ∧ OwAt wr w.heap.size (.slice A7 r.length c7) r ∧ r.length ≤ n + m ∧ Below w2.heap.size w2 wr ∧ Hid (riseA a = true → riseA r = true ∧ (sb.drop m).foldl stepB r = R))
  case atStart => exact ⟨0, sa, A1, c1, by omega, rfl, rfl, rfl, HO2.out, by omega, Below.refl _ _, Lib.hid (by rw [List.drop_zero]; exact HR0.out)⟩
  case round =>
    obtain ⟨m, r, A7, c7, hm, hg, rfl, rfl, hown, hrl, yr, HI⟩ := hrel
    have HG := Lib.hid hg
    clear hg HR0
    by_cases hlt : m < k2
    · obtain ⟨ad, x, rfl, had, hd1, _, hc0⟩ := (rb.below yr (Nat.le_refl _)).el (i := m) (by have := K2.out; omega)
      have HI2 := Lib.hid (stepB_drop hd1 HI.out)
      obtain ⟨x1, x2, x3, x4, x5⟩ := x
      obtain ⟨r0, r1, r2, r3, r4⟩ := at_cells hc0
      clear hc0 hd1 HI
      have y3 := ext_alloc wr (.cells #[.int .i64 x1, .int .u8 x2, .int .i64 x3, .int .u64 x4, .string x5] 53)
      have hbx := heap_alloc_new wr (.cells #[.int .i64 x1, .int .u8 x2, .int .i64 x3, .int .u64 x4, .string x5] 53)
      have HBX := Lib.hid hbx
      have HOW := Lib.hid (hown.below y3 (Nat.le_refl _))
      have yw := ext_trans yr y3
      have hsw : w.heap.size ≤ w2.heap.size := y.size
      have hw2 : IntKind.i64.wrap ((m:Int) + 1) = (m : Int) + 1 := IntWalk.i64_in _ (by omega)
      obtain ⟨nr, hnr⟩ : ∃ nr, nr = r.length := ⟨_, rfl⟩
      rw [← hnr] at HOW hrl ⊢
      have NR := Lib.hid hnr
      clear hbx hown hnr
      go_wp2_with (go_at_call 214; refine Hid.out ?_)
      refine Lib.hid ?_
      refine (get_any A7 nr c7 r x1 _ NR.out (HOW.out.rd At.enc_len) (by omega)).mono ?_
      rintro e w3 ⟨⟨v1, v2, v3, v4⟩, has, rfl, hget, y4⟩
      have y5 := ext_alloc w3 (.cells #[.int .u8 v1, .int .i64 v2, .int .u64 v3, .string v4] 43)
      have HBX2 := Lib.hid (((ext_trans y4 y5).block _ (lt_of_some HBX.out)).trans HBX.out)
      have HOW2 := Lib.hid (HOW.out.below (ext_trans y4 y5) (Nat.le_refl _))
      have yz := ext_trans yw (ext_trans y4 y5)
      have HGT : Hid (riseA r = true → (getA r x1).isSome = has) := Lib.hid (fun h => by have := hget.2.2 h; rw [this]; cases has <;> rfl)
      clear hget r0 r1 r2 r3 r4
      cases has with
      | true =>
        go_wp2_with (fail)
        go_roundg (k2 - (m + 1))
        case measure => have := HG.out; omega
        case rel =>
          refine ⟨m + 1, r, A7, c7, by omega, rfl, by rw [NR.out], by go_num, by rw [← NR.out]; exact HOW2.out, by have := NR.out; omega, yz, Lib.hid (fun h => ?_)⟩
          obtain ⟨g1, g2⟩ := HI2.out h
          refine ⟨g1, ?_⟩
          rw [← g2]
          unfold stepB
          rw [if_pos (HGT.out g1)]
      | false =>
        obtain ⟨c0, c1, c2, c3, c4⟩ := box_at HBX2.out
        go_wp2_with (go_at_call 215; refine Hid.out ?_)
        refine Lib.hid ?_
        refine (with_any A7 nr c7 r x1 x2 x3 x4 x5 _ NR.out (HOW2.out.rd At.enc_len) (by omega)).mono ?_
        rintro e w4 ⟨r', hrw, hrl', A8, c8, rfl, ho, y6⟩
        have yq := ext_trans yz y6
        have HO8 := Lib.hid (ho.base_le (B := w.heap.size) (by have := yz.size; omega))
        clear ho c0 c1 c2 c3 c4
        go_wp2_with (fail)
        go_roundg (k2 - (m + 1))
        case measure => have := HG.out; omega
        case rel =>
          refine ⟨m + 1, r', A8, c8, by omega, rfl, rfl, by go_num, HO8.out, by have := NR.out; omega, yq, Lib.hid (fun h => ?_)⟩
          obtain ⟨g1, g2⟩ := HI2.out h
          have e1 := hrw g1
          have e2 : stepB r ⟨x1, x2, x3, x4, x5⟩ = r' := by
            rw [e1]; unfold stepB
            rw [if_neg (by rw [HGT.out g1]; simp)]
          rw [e2] at g2
          refine ⟨?_, g2⟩
          rw [e1]; exact (with_all g1 _).1
    · have hmn : m = k2 := by omega
      have HOW := Lib.hid hown
      have HE : Hid (riseA a = true → r = R) := Lib.hid (fun h => by
        obtain ⟨_, g2⟩ := HI.out h
        rw [List.drop_eq_nil_of_le (by have := K2.out; omega)] at g2
        exact g2)
      clear hown
      go_wp2_with (fail)
      go_ret
      refine ⟨r, fun h => by rw [HE.out h, RR.out], by have := N.out; have := K.out; omega, A7, c7, rfl, HOW.out, ext_trans y yr⟩
end Go.Proofs.YtbdkbfoplpociaaGreatDoor
namespace Go.Proofs.YtbdkbfoplpociaaGreatDoor
set_option linter.unusedVariables false
set_option linter.unusedSimpArgs false

/-- does a key hold? -/
def prK (l : List Ky) (pr : Ky → Bool) (k : Int) : Bool := match findK l k with | some x => pr x | none => false
theorem sift_lk {l : List Ky} {pr : Ky → Bool} {s : List At} (h : riseA s = true) (k : Int) : lk At.key (siftP l pr s) k = if prK l pr k = true then lk At.key s k else none := by
  unfold siftP
  rw [lk_filter At.key (riseA_srt.1 h)]
  cases hl : lk At.key s k with
  | none => simp
  | some a =>
    have hk := lk_key At.key hl
    subst hk
    unfold prK
    cases hf : findK l a.key with
    | none => simp [Option.filter, hf]
    | some k => simp [Option.filter, hf]
theorem sift_mem {l : List Ky} {pr : Ky → Bool} {s : List At} {x : At} (h : x ∈ siftP l pr s) : x ∈ s := (List.mem_filter.1 h).1
theorem typed_all {l : List Ky} {a b : List At} (ha : riseA a = true) (hb : riseA b = true) :
    riseA (typedP l a b) = true ∧ (∀ k, lk At.key (typedP l a b) k = (if prK l afterK k = true then lk At.key a k else none).or (if prK l beforeK k = true then lk At.key b k else none)) := by
  unfold typedP
  obtain ⟨h1, h2, _⟩ := foldl_step (siftP l beforeK b) (sift_rise (l := l) (pr := afterK) ha)
  exact ⟨h1, fun k => by rw [h2 k, sift_lk ha, sift_lk hb]⟩
/-- what is known of one attribute of what is typed -/
def TypedOne (l : List Ky) (a b : List At) (x : At) : Prop :=
  ∃ K, findK l x.key = some K ∧ K.block = false ∧
    (K.after = true ∧ getA a x.key = some x.v ∨ (K.after = false ∨ getA a x.key = none) ∧ K.before = true ∧ getA b x.key = some x.v)
theorem typed_one {l : List Ky} {a b : List At} (ha : riseA a = true) (hb : riseA b = true) {x : At} (hx : x ∈ typedP l a b) : TypedOne l a b x := by
  obtain ⟨h1, h2⟩ := typed_all (l := l) ha hb
  have h3 := lk_of_mem At.key (riseA_srt.1 h1) hx
  rw [h2] at h3
  unfold TypedOne
  unfold prK at h3
  rw [getA_lk, getA_lk]
  cases hf : findK l x.key with
  | none => rw [hf] at h3; simp at h3
  | some K =>
    rw [hf] at h3
    simp only at h3
    refine ⟨K, rfl, ?_⟩
    obtain ⟨i, bl, kd, af, be, gr⟩ := K
    unfold afterK beforeK at h3
    simp only at h3 ⊢
    cases bl with
    | true => simp at h3
    | false =>
      refine ⟨rfl, ?_⟩
      cases af with
      | true =>
        simp only [Bool.not_false, Bool.true_and, if_true] at h3
        cases hq : lk At.key a x.key with
        | some y => rw [hq] at h3; simp at h3; exact .inl ⟨rfl, by rw [h3]; rfl⟩
        | none =>
          rw [hq, Option.none_or] at h3
          cases be with
          | true => simp at h3; exact .inr ⟨.inr rfl, rfl, by rw [h3]; rfl⟩
          | false => simp at h3
      | false =>
        cases be with
        | true => simp at h3; exact .inr ⟨.inl rfl, rfl, by rw [h3]; rfl⟩
        | false => simp at h3
end Go.Proofs.YtbdkbfoplpociaaGreatDoor
