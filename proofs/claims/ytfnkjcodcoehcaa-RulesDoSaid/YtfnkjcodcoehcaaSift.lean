/- The walks of rules.sift (at each of its closures), Split and Typed. -/
import Derived.Test.YtfnkjcodcoehcaaSchema1
import Derived.Deep.LoopGhost
import Derived.Deep.DeepMust
import Derived.Test.YtfnkjcodcoehcaaWith
namespace Go.Proofs.Ytfnkjcodcoehcaa
open Go.RowKit
set_option linter.unusedVariables false
set_option linter.unusedSimpArgs false

/-- the attributes whose keys are so -/
def siftP (l : List Ky) (pr : Ky → Bool) (s : List At) : List At := s.filter (fun a => match findK l a.key with | some k => pr k | none => false)
def splitK (k : Ky) : Bool := k.block && k.after
def afterK (k : Ky) : Bool := !k.block && k.after
def beforeK (k : Ky) : Bool := !k.block && k.before
theorem sift_drop {l : List Ky} {pr : Ky → Bool} {s : List At} {m : Nat} {x : At} {r R : List At} (hd : s.drop m = x :: s.drop (m + 1)) (h : r ++ siftP l pr (s.drop m) = R) :
    (match findK l x.key with | some k => pr k | none => false) = true ∧ (r ++ [x]) ++ siftP l pr (s.drop (m + 1)) = R ∨ (match findK l x.key with | some k => pr k | none => false) = false ∧ r ++ siftP l pr (s.drop (m + 1)) = R := by
  rw [hd] at h
  unfold siftP at h ⊢
  rw [List.filter_cons] at h
  cases hp : (match findK l x.key with | some k => pr k | none => false) with
  | true => rw [hp, if_pos rfl] at h; exact .inl ⟨rfl, by rw [← h]; simp⟩
  | false => rw [hp] at h; simp only [Bool.false_eq_true, if_false] at h; exact .inr ⟨rfl, h⟩

set_option maxHeartbeats 400000 in
theorem splitCl_any (i q kd : Int) (c d f : Bool) (w : World) :
    Calls Try.prog 30 #[.agg #[.int .i64 i, .bool c, .int .u8 kd, .bool d, .bool f, .int .i64 q]] w fun e w' => e = .returned (.bool (splitK ⟨i, c, kd, d, f, q⟩)) ∧ Below w.heap.size w w' := by
  cases c
  all_goals
    go_enter Try.func30, Try.ntmps30
    go_wp2_with (fail)
    go_ret
    exact ⟨ret_bool (by simp [splitK]), ext_alloc w _⟩
set_option maxRecDepth 100000 in
set_option maxHeartbeats 1600000 in
theorem sift_split (s : Nat) (l : List Ky) (A : Option Addr) (n c : Nat) (set : List At) (w : World) (hn : n = set.length) (h : RdAt w w.heap.size A set) (hb : n ≤ 100000000) (hS : Sch w s l) :
    Calls Try.prog 29 #[.pointer (some ⟨s, 0, none⟩), .slice A n c, .func (.func 30) #[] #[]] w (NewAt (siftP l splitK set) w) := by
  have N := Lib.hid hn
  have HS := Lib.hid hS
  generalize hR : siftP l splitK set = R
  have HR := Lib.hid hR
  clear hn hR hS
  go_enter Try.func29, Try.ntmps29
  go_wp2_with (fail)
  go_loopg [7, 14] n (fun g ov iv wr => ∃ (m : Nat) (r : List At), m ≤ n ∧ g = n - m ∧ iv = .int .i64 (m : Int) ∧ OwAt wr w.heap.size ov r ∧ r.length ≤ m ∧ Below w.heap.size w wr ∧ Hid (r ++ siftP l splitK (set.drop m) = R))
  case atStart => exact ⟨0, [], by omega, rfl, rfl, Ow.nil _ _, by simp, Below.refl _ _, Lib.hid (by simpa using HR.out)⟩
  case round =>
    obtain ⟨m, r, hm, hg, rfl, hown, hrl, y, HI⟩ := hrel
    have HG := Lib.hid hg
    clear hg HR
    by_cases hlt : m < n
    · have hl1 : m < set.length := by have := N.out; omega
      obtain ⟨ad, x, rfl, had, hd1, _, hc0⟩ := (h.below y (Nat.le_refl _)).el hl1
      have hst := sift_drop hd1 HI.out
      obtain ⟨x1, x2, x3, x4, x5⟩ := x
      obtain ⟨r0, r1, r2, r3, r4⟩ := at_cells hc0
      have HST := Lib.hid hst
      clear hst hc0 hd1 HI
      have y1 := ext_alloc wr (.cells #[.int .i64 x1, .int .u8 x2, .int .i64 x3, .int .u64 x4, .string x5] 55)
      have hbx := heap_alloc_new wr (.cells #[.int .i64 x1, .int .u8 x2, .int .i64 x3, .int .u64 x4, .string x5] 55)
      have HBX := Lib.hid hbx
      have how1 := hown.below y1 (Nat.le_refl _)
      have hwb : wb u7 ≠ some wr.heap.size := fun e => by have := (hown.wb_lt _ e).2; omega
      have HOW := Lib.hid how1
      have HWB := Lib.hid hwb
      have y2 := ext_trans y y1
      clear hbx hown how1 hwb
      have hw2 : IntKind.i64.wrap ((m:Int) + 1) = (m : Int) + 1 := IntWalk.i64_in _ (by omega)
      go_wp2_with (go_at_call 35; refine Hid.out ?_)
      refine Lib.hid ?_
      refine (findS_any s l x1 _ (HS.out.ext y2)).mono ?_
      rintro e w1 ⟨i, k1, kd, k2, k3, q, ok, rfl, hk, hbk, y3⟩
      have y4 := ext_alloc w1 (.cells #[.int .i64 i, .bool k1, .int .u8 kd, .bool k2, .bool k3, .int .i64 q] 53)
      have hbx2 := (ext_trans y3 y4).block _ (lt_of_some HBX.out) |>.trans HBX.out
      have HOW2 := Lib.hid (HOW.out.below (ext_trans y3 y4) (Nat.le_refl _))
      have HBX2 := Lib.hid hbx2
      have y5 := ext_trans y2 (ext_trans y3 y4)
      have HK := Lib.hid hk
      have HB := Lib.hid hbk
      clear hk hbk r0 r1 r2 r3 r4
      cases ok with
      | false =>
        have HN : Hid (r ++ siftP l splitK (set.drop (m + 1)) = R) := Lib.hid (by
          have h1 := HB.out
          rcases HST.out with ⟨h2, h3⟩ | ⟨h2, h3⟩
          · cases hq : findK l x1 with
            | none => simp only [hq] at h2; cases h2
            | some k => rw [hq] at h1; cases h1
          · exact h3)
        clear hbx2
        go_wp2_with (fail)
        go_roundg (n - (m + 1))
        case measure => have := HG.out; omega
        case rel => exact ⟨m + 1, r, by omega, rfl, by go_num, HOW2.out, by omega, y5, HN⟩
      | true =>
        have HP : Hid (splitK ⟨i, k1, kd, k2, k3, q⟩ = true ∧ (r ++ [⟨x1, ⟨x2, x3, x4, x5⟩⟩]) ++ siftP l splitK (set.drop (m + 1)) = R ∨ splitK ⟨i, k1, kd, k2, k3, q⟩ = false ∧ r ++ siftP l splitK (set.drop (m + 1)) = R) := Lib.hid (by
          have h1 := HB.out
          have h4 := HK.out
          cases hq : findK l x1 with
          | none => rw [hq] at h1; cases h1
          | some k =>
            rw [hq] at h4
            simp only [Option.getD_some] at h4
            subst h4
            have h5 := HST.out
            simp only [hq] at h5
            exact h5)
        have hb3 := heap_alloc_new w1 (.cells #[.int .i64 i, .bool k1, .int .u8 kd, .bool k2, .bool k3, .int .i64 q] 53)
        obtain ⟨a0, a1, a2, a3, a4, a5⟩ := box_ky hb3
        clear hbx2 hb3
        go_wp2_with (go_at_call 30; refine Hid.out ?_)
        refine Lib.hid ?_
        refine (splitCl_any i q kd k1 k2 k3 _).mono ?_
        rintro e w3 ⟨rfl, y6⟩
        clear a0 a1 a2 a3 a4 a5
        have hbx3 := (y6.block _ (lt_of_some HBX2.out)).trans HBX2.out
        have HOW3 := Lib.hid (HOW2.out.below y6 (Nat.le_refl _))
        have y7 := ext_trans y5 y6
        obtain ⟨c0, c1, c2, c3, c4⟩ := box_at hbx3
        obtain ⟨P, hP⟩ : ∃ P, splitK ⟨i, k1, kd, k2, k3, q⟩ = P := ⟨_, rfl⟩
        rw [hP] at HP ⊢
        clear hbx3 hP
        cases P with
        | false =>
          go_wp2_with (fail)
          go_roundg (n - (m + 1))
          case measure => have := HG.out; omega
          case rel => exact ⟨m + 1, r, by omega, rfl, by go_num, HOW3.out, by omega, y7, Lib.hid (by rcases HP.out with ⟨h, _⟩ | ⟨_, h⟩; cases h; exact h)⟩
        | true =>
          go_wp2_with (at_builtin; refine app_at (m := [⟨x1, ⟨x2, x3, x4, x5⟩⟩]) rfl (.tmp 31) (.tmp 33) rfl rfl (by exact HOW3.out.alloc _) _ _ 1 1 rfl rfl (by exact rd_one _ _ _ rfl) (by simp only [List.length_singleton]; omega) (by have := y7.size; simp; omega) ?_; intro v' w' hown' hgr hv')
          have s1 := below_app (y7.alloc y7.size _) (by have := y7.size; simp; omega) (HOW3.out.alloc _) (Nat.le_refl _) hgr
          go_roundg (n - (m + 1))
          case measure => have := HG.out; omega
          case rel => exact ⟨m + 1, r ++ [⟨x1, ⟨x2, x3, x4, x5⟩⟩], by omega, rfl, by go_num, hown', by simp; omega, s1, Lib.hid (by rcases HP.out with ⟨_, h⟩ | ⟨h, _⟩; exact h; cases h)⟩
    · have hmn : m = n := by omega
      have hR : r = R := by
        have h := HI.out
        rw [List.drop_eq_nil_of_le (by have := N.out; omega)] at h
        simpa [siftP] using h
      subst hR
      obtain ⟨A', c', rfl, _, _⟩ := hown.form
      have HOW := Lib.hid hown
      clear hown
      go_wp2_with (fail)
      go_ret
      exact ⟨A', c', rfl, HOW.out, y⟩

set_option maxHeartbeats 400000 in
theorem afterCl_any (i q kd : Int) (c d f : Bool) (w : World) :
    Calls Try.prog 31 #[.agg #[.int .i64 i, .bool c, .int .u8 kd, .bool d, .bool f, .int .i64 q]] w fun e w' => e = .returned (.bool (afterK ⟨i, c, kd, d, f, q⟩)) ∧ Below w.heap.size w w' := by
  cases c
  all_goals
    go_enter Try.func31, Try.ntmps31
    go_wp2_with (fail)
    go_ret
    exact ⟨ret_bool (by simp [afterK]), ext_alloc w _⟩
set_option maxRecDepth 100000 in
set_option maxHeartbeats 1600000 in
theorem sift_after (s : Nat) (l : List Ky) (A : Option Addr) (n c : Nat) (set : List At) (w : World) (hn : n = set.length) (h : RdAt w w.heap.size A set) (hb : n ≤ 100000000) (hS : Sch w s l) :
    Calls Try.prog 29 #[.pointer (some ⟨s, 0, none⟩), .slice A n c, .func (.func 31) #[] #[]] w (NewAt (siftP l afterK set) w) := by
  have N := Lib.hid hn
  have HS := Lib.hid hS
  generalize hR : siftP l afterK set = R
  have HR := Lib.hid hR
  clear hn hR hS
  go_enter Try.func29, Try.ntmps29
  go_wp2_with (fail)
  go_loopg [7, 14] n (fun g ov iv wr => ∃ (m : Nat) (r : List At), m ≤ n ∧ g = n - m ∧ iv = .int .i64 (m : Int) ∧ OwAt wr w.heap.size ov r ∧ r.length ≤ m ∧ Below w.heap.size w wr ∧ Hid (r ++ siftP l afterK (set.drop m) = R))
  case atStart => exact ⟨0, [], by omega, rfl, rfl, Ow.nil _ _, by simp, Below.refl _ _, Lib.hid (by simpa using HR.out)⟩
  case round =>
    obtain ⟨m, r, hm, hg, rfl, hown, hrl, y, HI⟩ := hrel
    have HG := Lib.hid hg
    clear hg HR
    by_cases hlt : m < n
    · have hl1 : m < set.length := by have := N.out; omega
      obtain ⟨ad, x, rfl, had, hd1, _, hc0⟩ := (h.below y (Nat.le_refl _)).el hl1
      have hst := sift_drop hd1 HI.out
      obtain ⟨x1, x2, x3, x4, x5⟩ := x
      obtain ⟨r0, r1, r2, r3, r4⟩ := at_cells hc0
      have HST := Lib.hid hst
      clear hst hc0 hd1 HI
      have y1 := ext_alloc wr (.cells #[.int .i64 x1, .int .u8 x2, .int .i64 x3, .int .u64 x4, .string x5] 55)
      have hbx := heap_alloc_new wr (.cells #[.int .i64 x1, .int .u8 x2, .int .i64 x3, .int .u64 x4, .string x5] 55)
      have HBX := Lib.hid hbx
      have how1 := hown.below y1 (Nat.le_refl _)
      have hwb : wb u7 ≠ some wr.heap.size := fun e => by have := (hown.wb_lt _ e).2; omega
      have HOW := Lib.hid how1
      have HWB := Lib.hid hwb
      have y2 := ext_trans y y1
      clear hbx hown how1 hwb
      have hw2 : IntKind.i64.wrap ((m:Int) + 1) = (m : Int) + 1 := IntWalk.i64_in _ (by omega)
      go_wp2_with (go_at_call 35; refine Hid.out ?_)
      refine Lib.hid ?_
      refine (findS_any s l x1 _ (HS.out.ext y2)).mono ?_
      rintro e w1 ⟨i, k1, kd, k2, k3, q, ok, rfl, hk, hbk, y3⟩
      have y4 := ext_alloc w1 (.cells #[.int .i64 i, .bool k1, .int .u8 kd, .bool k2, .bool k3, .int .i64 q] 53)
      have hbx2 := (ext_trans y3 y4).block _ (lt_of_some HBX.out) |>.trans HBX.out
      have HOW2 := Lib.hid (HOW.out.below (ext_trans y3 y4) (Nat.le_refl _))
      have HBX2 := Lib.hid hbx2
      have y5 := ext_trans y2 (ext_trans y3 y4)
      have HK := Lib.hid hk
      have HB := Lib.hid hbk
      clear hk hbk r0 r1 r2 r3 r4
      cases ok with
      | false =>
        have HN : Hid (r ++ siftP l afterK (set.drop (m + 1)) = R) := Lib.hid (by
          have h1 := HB.out
          rcases HST.out with ⟨h2, h3⟩ | ⟨h2, h3⟩
          · cases hq : findK l x1 with
            | none => simp only [hq] at h2; cases h2
            | some k => rw [hq] at h1; cases h1
          · exact h3)
        clear hbx2
        go_wp2_with (fail)
        go_roundg (n - (m + 1))
        case measure => have := HG.out; omega
        case rel => exact ⟨m + 1, r, by omega, rfl, by go_num, HOW2.out, by omega, y5, HN⟩
      | true =>
        have HP : Hid (afterK ⟨i, k1, kd, k2, k3, q⟩ = true ∧ (r ++ [⟨x1, ⟨x2, x3, x4, x5⟩⟩]) ++ siftP l afterK (set.drop (m + 1)) = R ∨ afterK ⟨i, k1, kd, k2, k3, q⟩ = false ∧ r ++ siftP l afterK (set.drop (m + 1)) = R) := Lib.hid (by
          have h1 := HB.out
          have h4 := HK.out
          cases hq : findK l x1 with
          | none => rw [hq] at h1; cases h1
          | some k =>
            rw [hq] at h4
            simp only [Option.getD_some] at h4
            subst h4
            have h5 := HST.out
            simp only [hq] at h5
            exact h5)
        have hb3 := heap_alloc_new w1 (.cells #[.int .i64 i, .bool k1, .int .u8 kd, .bool k2, .bool k3, .int .i64 q] 53)
        obtain ⟨a0, a1, a2, a3, a4, a5⟩ := box_ky hb3
        clear hbx2 hb3
        go_wp2_with (go_at_call 31; refine Hid.out ?_)
        refine Lib.hid ?_
        refine (afterCl_any i q kd k1 k2 k3 _).mono ?_
        rintro e w3 ⟨rfl, y6⟩
        clear a0 a1 a2 a3 a4 a5
        have hbx3 := (y6.block _ (lt_of_some HBX2.out)).trans HBX2.out
        have HOW3 := Lib.hid (HOW2.out.below y6 (Nat.le_refl _))
        have y7 := ext_trans y5 y6
        obtain ⟨c0, c1, c2, c3, c4⟩ := box_at hbx3
        obtain ⟨P, hP⟩ : ∃ P, afterK ⟨i, k1, kd, k2, k3, q⟩ = P := ⟨_, rfl⟩
        rw [hP] at HP ⊢
        clear hbx3 hP
        cases P with
        | false =>
          go_wp2_with (fail)
          go_roundg (n - (m + 1))
          case measure => have := HG.out; omega
          case rel => exact ⟨m + 1, r, by omega, rfl, by go_num, HOW3.out, by omega, y7, Lib.hid (by rcases HP.out with ⟨h, _⟩ | ⟨_, h⟩; cases h; exact h)⟩
        | true =>
          go_wp2_with (at_builtin; refine app_at (m := [⟨x1, ⟨x2, x3, x4, x5⟩⟩]) rfl (.tmp 31) (.tmp 33) rfl rfl (by exact HOW3.out.alloc _) _ _ 1 1 rfl rfl (by exact rd_one _ _ _ rfl) (by simp only [List.length_singleton]; omega) (by have := y7.size; simp; omega) ?_; intro v' w' hown' hgr hv')
          have s1 := below_app (y7.alloc y7.size _) (by have := y7.size; simp; omega) (HOW3.out.alloc _) (Nat.le_refl _) hgr
          go_roundg (n - (m + 1))
          case measure => have := HG.out; omega
          case rel => exact ⟨m + 1, r ++ [⟨x1, ⟨x2, x3, x4, x5⟩⟩], by omega, rfl, by go_num, hown', by simp; omega, s1, Lib.hid (by rcases HP.out with ⟨_, h⟩ | ⟨h, _⟩; exact h; cases h)⟩
    · have hmn : m = n := by omega
      have hR : r = R := by
        have h := HI.out
        rw [List.drop_eq_nil_of_le (by have := N.out; omega)] at h
        simpa [siftP] using h
      subst hR
      obtain ⟨A', c', rfl, _, _⟩ := hown.form
      have HOW := Lib.hid hown
      clear hown
      go_wp2_with (fail)
      go_ret
      exact ⟨A', c', rfl, HOW.out, y⟩

set_option maxHeartbeats 400000 in
theorem beforeCl_any (i q kd : Int) (c d f : Bool) (w : World) :
    Calls Try.prog 32 #[.agg #[.int .i64 i, .bool c, .int .u8 kd, .bool d, .bool f, .int .i64 q]] w fun e w' => e = .returned (.bool (beforeK ⟨i, c, kd, d, f, q⟩)) ∧ Below w.heap.size w w' := by
  cases c
  all_goals
    go_enter Try.func32, Try.ntmps32
    go_wp2_with (fail)
    go_ret
    exact ⟨ret_bool (by simp [beforeK]), ext_alloc w _⟩
set_option maxRecDepth 100000 in
set_option maxHeartbeats 1600000 in
theorem sift_before (s : Nat) (l : List Ky) (A : Option Addr) (n c : Nat) (set : List At) (w : World) (hn : n = set.length) (h : RdAt w w.heap.size A set) (hb : n ≤ 100000000) (hS : Sch w s l) :
    Calls Try.prog 29 #[.pointer (some ⟨s, 0, none⟩), .slice A n c, .func (.func 32) #[] #[]] w (NewAt (siftP l beforeK set) w) := by
  have N := Lib.hid hn
  have HS := Lib.hid hS
  generalize hR : siftP l beforeK set = R
  have HR := Lib.hid hR
  clear hn hR hS
  go_enter Try.func29, Try.ntmps29
  go_wp2_with (fail)
  go_loopg [7, 14] n (fun g ov iv wr => ∃ (m : Nat) (r : List At), m ≤ n ∧ g = n - m ∧ iv = .int .i64 (m : Int) ∧ OwAt wr w.heap.size ov r ∧ r.length ≤ m ∧ Below w.heap.size w wr ∧ Hid (r ++ siftP l beforeK (set.drop m) = R))
  case atStart => exact ⟨0, [], by omega, rfl, rfl, Ow.nil _ _, by simp, Below.refl _ _, Lib.hid (by simpa using HR.out)⟩
  case round =>
    obtain ⟨m, r, hm, hg, rfl, hown, hrl, y, HI⟩ := hrel
    have HG := Lib.hid hg
    clear hg HR
    by_cases hlt : m < n
    · have hl1 : m < set.length := by have := N.out; omega
      obtain ⟨ad, x, rfl, had, hd1, _, hc0⟩ := (h.below y (Nat.le_refl _)).el hl1
      have hst := sift_drop hd1 HI.out
      obtain ⟨x1, x2, x3, x4, x5⟩ := x
      obtain ⟨r0, r1, r2, r3, r4⟩ := at_cells hc0
      have HST := Lib.hid hst
      clear hst hc0 hd1 HI
      have y1 := ext_alloc wr (.cells #[.int .i64 x1, .int .u8 x2, .int .i64 x3, .int .u64 x4, .string x5] 55)
      have hbx := heap_alloc_new wr (.cells #[.int .i64 x1, .int .u8 x2, .int .i64 x3, .int .u64 x4, .string x5] 55)
      have HBX := Lib.hid hbx
      have how1 := hown.below y1 (Nat.le_refl _)
      have hwb : wb u7 ≠ some wr.heap.size := fun e => by have := (hown.wb_lt _ e).2; omega
      have HOW := Lib.hid how1
      have HWB := Lib.hid hwb
      have y2 := ext_trans y y1
      clear hbx hown how1 hwb
      have hw2 : IntKind.i64.wrap ((m:Int) + 1) = (m : Int) + 1 := IntWalk.i64_in _ (by omega)
      go_wp2_with (go_at_call 35; refine Hid.out ?_)
      refine Lib.hid ?_
      refine (findS_any s l x1 _ (HS.out.ext y2)).mono ?_
      rintro e w1 ⟨i, k1, kd, k2, k3, q, ok, rfl, hk, hbk, y3⟩
      have y4 := ext_alloc w1 (.cells #[.int .i64 i, .bool k1, .int .u8 kd, .bool k2, .bool k3, .int .i64 q] 53)
      have hbx2 := (ext_trans y3 y4).block _ (lt_of_some HBX.out) |>.trans HBX.out
      have HOW2 := Lib.hid (HOW.out.below (ext_trans y3 y4) (Nat.le_refl _))
      have HBX2 := Lib.hid hbx2
      have y5 := ext_trans y2 (ext_trans y3 y4)
      have HK := Lib.hid hk
      have HB := Lib.hid hbk
      clear hk hbk r0 r1 r2 r3 r4
      cases ok with
      | false =>
        have HN : Hid (r ++ siftP l beforeK (set.drop (m + 1)) = R) := Lib.hid (by
          have h1 := HB.out
          rcases HST.out with ⟨h2, h3⟩ | ⟨h2, h3⟩
          · cases hq : findK l x1 with
            | none => simp only [hq] at h2; cases h2
            | some k => rw [hq] at h1; cases h1
          · exact h3)
        clear hbx2
        go_wp2_with (fail)
        go_roundg (n - (m + 1))
        case measure => have := HG.out; omega
        case rel => exact ⟨m + 1, r, by omega, rfl, by go_num, HOW2.out, by omega, y5, HN⟩
      | true =>
        have HP : Hid (beforeK ⟨i, k1, kd, k2, k3, q⟩ = true ∧ (r ++ [⟨x1, ⟨x2, x3, x4, x5⟩⟩]) ++ siftP l beforeK (set.drop (m + 1)) = R ∨ beforeK ⟨i, k1, kd, k2, k3, q⟩ = false ∧ r ++ siftP l beforeK (set.drop (m + 1)) = R) := Lib.hid (by
          have h1 := HB.out
          have h4 := HK.out
          cases hq : findK l x1 with
          | none => rw [hq] at h1; cases h1
          | some k =>
            rw [hq] at h4
            simp only [Option.getD_some] at h4
            subst h4
            have h5 := HST.out
            simp only [hq] at h5
            exact h5)
        have hb3 := heap_alloc_new w1 (.cells #[.int .i64 i, .bool k1, .int .u8 kd, .bool k2, .bool k3, .int .i64 q] 53)
        obtain ⟨a0, a1, a2, a3, a4, a5⟩ := box_ky hb3
        clear hbx2 hb3
        go_wp2_with (go_at_call 32; refine Hid.out ?_)
        refine Lib.hid ?_
        refine (beforeCl_any i q kd k1 k2 k3 _).mono ?_
        rintro e w3 ⟨rfl, y6⟩
        clear a0 a1 a2 a3 a4 a5
        have hbx3 := (y6.block _ (lt_of_some HBX2.out)).trans HBX2.out
        have HOW3 := Lib.hid (HOW2.out.below y6 (Nat.le_refl _))
        have y7 := ext_trans y5 y6
        obtain ⟨c0, c1, c2, c3, c4⟩ := box_at hbx3
        obtain ⟨P, hP⟩ : ∃ P, beforeK ⟨i, k1, kd, k2, k3, q⟩ = P := ⟨_, rfl⟩
        rw [hP] at HP ⊢
        clear hbx3 hP
        cases P with
        | false =>
          go_wp2_with (fail)
          go_roundg (n - (m + 1))
          case measure => have := HG.out; omega
          case rel => exact ⟨m + 1, r, by omega, rfl, by go_num, HOW3.out, by omega, y7, Lib.hid (by rcases HP.out with ⟨h, _⟩ | ⟨_, h⟩; cases h; exact h)⟩
        | true =>
          go_wp2_with (at_builtin; refine app_at (m := [⟨x1, ⟨x2, x3, x4, x5⟩⟩]) rfl (.tmp 31) (.tmp 33) rfl rfl (by exact HOW3.out.alloc _) _ _ 1 1 rfl rfl (by exact rd_one _ _ _ rfl) (by simp only [List.length_singleton]; omega) (by have := y7.size; simp; omega) ?_; intro v' w' hown' hgr hv')
          have s1 := below_app (y7.alloc y7.size _) (by have := y7.size; simp; omega) (HOW3.out.alloc _) (Nat.le_refl _) hgr
          go_roundg (n - (m + 1))
          case measure => have := HG.out; omega
          case rel => exact ⟨m + 1, r ++ [⟨x1, ⟨x2, x3, x4, x5⟩⟩], by omega, rfl, by go_num, hown', by simp; omega, s1, Lib.hid (by rcases HP.out with ⟨_, h⟩ | ⟨h, _⟩; exact h; cases h)⟩
    · have hmn : m = n := by omega
      have hR : r = R := by
        have h := HI.out
        rw [List.drop_eq_nil_of_le (by have := N.out; omega)] at h
        simpa [siftP] using h
      subst hR
      obtain ⟨A', c', rfl, _, _⟩ := hown.form
      have HOW := Lib.hid hown
      clear hown
      go_wp2_with (fail)
      go_ret
      exact ⟨A', c', rfl, HOW.out, y⟩

set_option maxHeartbeats 800000 in
theorem split_any (s : Nat) (l : List Ky) (A : Option Addr) (n c : Nat) (set : List At) (w : World) (hn : n = set.length) (h : RdAt w w.heap.size A set) (hb : n ≤ 100000000) (hS : Sch w s l) :
    Calls Try.prog 11 #[.pointer (some ⟨s, 0, none⟩), .slice A n c] w (NewAt (siftP l splitK set) w) := by
  have N := Lib.hid hn
  clear hn
  generalize hR : siftP l splitK set = R
  have HR := Lib.hid hR
  clear hR
  go_enter Try.func11, Try.ntmps11
  go_wp2_with (go_at_call 29; refine Hid.out ?_)
  refine Lib.hid ?_
  refine (sift_split s l A n c set w N.out h hb hS).mono ?_
  rintro e w1 ⟨A1, c1, rfl, ho, y⟩
  rw [HR.out] at ho ⊢
  have HO := Lib.hid ho
  clear ho
  go_wp2_with (fail)
  go_ret
  exact ⟨A1, c1, rfl, HO.out, y⟩
end Go.Proofs.Ytfnkjcodcoehcaa
