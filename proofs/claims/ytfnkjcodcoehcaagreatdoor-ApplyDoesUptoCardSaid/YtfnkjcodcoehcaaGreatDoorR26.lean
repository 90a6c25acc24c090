/- Merged texts: RefSet, RefPatLaw, Ref06W, Cell19. -/
import Derived.Test.YtfnkjcodcoehcaaGreatDoorR23
import Derived.Test.YtfnkjcodcoehcaaGreatDoorR14
import Derived.Test.YtfnkjcodcoehcaaGreatDoorR10
import Derived.Test.YtfnkjcodcoehcaaGreatDoorR15
import Derived.Test.YtfnkjcodcoehcaaGreatDoorR9
import Derived.Deep.RegionHeld3
import Derived.Test.YtfnkjcodcoehcaaGreatDoorR7
import Derived.Laws.Rows
import Derived.Test.YtfnkjcodcoehcaaGreatDoorR19
namespace Go.Proofs.YtfnkjcodcoehcaaGreatDoor
open Go.RowKit
set_option linter.unusedVariables false
set_option linter.unusedSimpArgs false

theorem or_yes {a : Bool} {P Q : Prop} (h : a = true ∧ P ∨ a = false ∧ Q) (ha : a = true) : P := by
  rcases h with ⟨_, h⟩ | ⟨h, _⟩
  · exact h
  · rw [ha] at h; cases h
theorem or_no {a : Bool} {P Q : Prop} (h : a = true ∧ P ∨ a = false ∧ Q) (ha : a = false) : Q := by
  rcases h with ⟨h, _⟩ | ⟨_, h⟩
  · rw [ha] at h; cases h
  · exact h
theorem filter_drop {α : Type} {p : α → Bool} {s : List α} {m : Nat} {x : α} {r R : List α} (hd : s.drop m = x :: s.drop (m + 1)) (h : r ++ (s.drop m).filter p = R) :
    p x = true ∧ (r ++ [x]) ++ (s.drop (m + 1)).filter p = R ∨ p x = false ∧ r ++ (s.drop (m + 1)).filter p = R := by
  rw [hd, List.filter_cons] at h
  cases hp : p x with
  | true => rw [hp, if_pos rfl] at h; exact .inl ⟨rfl, by rw [← h]; simp⟩
  | false => rw [hp] at h; simp only [Bool.false_eq_true, if_false] at h; exact .inr ⟨rfl, h⟩

set_option maxRecDepth 100000 in
set_option maxHeartbeats 1600000 in
theorem without05_any (key : Int) (A : Option Addr) (n c : Nat) (l : List At) (w : World) (hn : n = l.length) (h : RdAt w w.heap.size A l) (hb : n ≤ 100000000) :
    Calls Tryz.prog 64 #[.slice A n c, .int .i64 key] w (NewAt (l.filter (fun a => !(a.key == key))) w) := by
  have N := Lib.hid hn
  obtain ⟨R, hR⟩ : ∃ X, l.filter (fun a => !(a.key == key)) = X := ⟨_, rfl⟩
  have HR := Lib.hid hR
  rw [hR]
  clear hn hR
  go_enter Tryz.func64, Tryz.ntmps64
  go_wp2_with (fail)
  go_loopg [5, 6] n (fun g ov iv wr => ∃ (m : Nat) (r : List At), m ≤ n ∧ g = n - m ∧ iv = .int .i64 (m : Int) ∧ OwAt wr w.heap.size ov r ∧ r.length ≤ m ∧ Below w.heap.size w wr ∧ Hid (r ++ (l.drop m).filter (fun a => !(a.key == key)) = R))
  case atStart => exact ⟨0, [], by omega, rfl, rfl, Ow.nil _ _, by simp, Below.refl _ _, Lib.hid (by simpa using HR.out)⟩
  case round =>
    obtain ⟨m, r, hm, hg, rfl, hown, hrl, y, HI⟩ := hrel
    have HG := Lib.hid hg
    clear hg HR
    by_cases hlt : m < n
    · obtain ⟨ad, x, rfl, hd1, hx1, hc0⟩ := (h.ext y).elIn (i := m) (by have := N.out; omega)
      have hst := filter_drop hd1 HI.out
      obtain ⟨x1, x2, x3, x4, x5⟩ := x
      have CX := Lib.hid hc0
      obtain ⟨r0, r1, r2, r3, r4⟩ := at_cells CX.out.2
      have HST := Lib.hid hst
      have hw2 : IntKind.i64.wrap ((m:Int) + 1) = (m : Int) + 1 := IntWalk.i64_in _ (by omega)
      clear hst hc0 hd1 hx1 HI
      by_cases hk : x1 = key
      · have hk2 : (x1 == key) = true := beq_iff_eq.2 hk
        have hk3 : (x1 != key) = false := by rw [bne, hk2]; rfl
        have HN : Hid (r ++ (l.drop (m + 1)).filter (fun a => !(a.key == key)) = R) := Lib.hid (or_no HST.out (by simp [hk]))
        clear hk
        go_wp2_with (fail)
        go_roundg (n - (m + 1))
        case measure => have := HG.out; omega
        case rel => exact ⟨m + 1, r, by omega, rfl, by go_num, by first | exact hown | exact hown.drewN _, by omega, by first | exact y | exact below_drewN y _, HN⟩
      · have hk2 : (x1 == key) = false := beq_eq_false_iff_ne.2 hk
        have hk3 : (x1 != key) = true := by rw [bne, hk2]; rfl
        have HN : Hid ((r ++ [⟨x1, ⟨x2, x3, x4, x5⟩⟩]) ++ (l.drop (m + 1)).filter (fun a => !(a.key == key)) = R) := Lib.hid (or_yes HST.out (by simp [hk2]))
        clear hk
        go_wp2_with ((at_builtin; refine app_at (m := [⟨x1, ⟨x2, x3, x4, x5⟩⟩]) rfl (.tmp 20) (.tmp 25) rfl rfl (by first | exact (hown.drewN _).alloc _ | exact hown.alloc _) _ _ 1 1 rfl rfl (by first | exact rd_one _ _ _ rfl | exact rd_one_at (enc := At.enc) (size := 5) (w3.alloc _) _ ⟨x1, ⟨x2, x3, x4, x5⟩⟩ rfl (by rw [World.size_alloc])) (by simp only [List.length_singleton]; omega) (by exact Nat.le_trans y.size (le_alloc _ _)) ?_; intro v' w' hown' hgr hv'))
        have s1 := below_app (by first | exact (below_drewN y _).alloc y.size _ | exact y.alloc y.size _) (by exact Nat.le_trans y.size (le_alloc _ _)) (by first | exact (hown.drewN _).alloc _ | exact hown.alloc _) (Nat.le_refl _) hgr
        go_roundg (n - (m + 1))
        case measure => have := HG.out; omega
        case rel => exact ⟨m + 1, r ++ [⟨x1, ⟨x2, x3, x4, x5⟩⟩], by omega, rfl, by go_num, hown', by simp; omega, s1, HN⟩
    · have hR : r = R := by
        have h := HI.out
        rw [List.drop_eq_nil_of_le (by have := N.out; omega)] at h
        simpa using h
      subst hR
      obtain ⟨A', c', rfl, _, _⟩ := hown.form
      have HOW := Lib.hid hown
      clear hown
      go_wp2_with (fail)
      go_ret
      exact ⟨A', c', rfl, HOW.out, y⟩

/-- a put in ahead of the first one whose key is greater -/
def insW (a : At) : List At → List At
  | [] => [a]
  | x :: t => if a.key < x.key then a :: x :: t else x :: insW a t
theorem insW_len (a : At) : ∀ s : List At, (insW a s).length = s.length + 1
  | [] => rfl
  | x :: t => by unfold insW; split <;> simp [insW_len a t]
theorem insW_lt {a x : At} {t : List At} (h : a.key < x.key) : insW a (x :: t) = a :: x :: t := by rw [insW, if_pos h]
theorem insW_ge {a x : At} {t : List At} (h : ¬ a.key < x.key) : insW a (x :: t) = x :: insW a t := by rw [insW, if_neg h]
theorem insW_all {s : List At} (hs : Srt At.key s) (a : At) (hn : ∀ x ∈ s, x.key ≠ a.key) : Srt At.key (insW a s) ∧ (∀ k, lk At.key (insW a s) k = if a.key = k then some a else lk At.key s k) ∧ ∀ m : Int, m < a.key → (∀ x ∈ s, m < x.key) → ∀ x ∈ insW a s, m < x.key := by
  induction s with
  | nil => exact ⟨(srt_cons At.key).2 ⟨by simp, Srt.nil At.key⟩, fun k => by rw [insW, lk_cons], fun m h _ x hx => by simp [insW] at hx; subst hx; exact h⟩
  | cons x t ih =>
    obtain ⟨h1, h2⟩ := (srt_cons At.key).1 hs
    obtain ⟨g1, g2, g3⟩ := ih h2 (fun y hy => hn y (List.mem_cons_of_mem _ hy))
    by_cases hk : a.key < x.key
    · rw [insW_lt hk]
      refine ⟨(srt_cons At.key).2 ⟨fun b hb => ?_, hs⟩, fun k => by rw [lk_cons], fun m hm hl y hy => ?_⟩
      · rcases List.mem_cons.1 hb with rfl | hb
        · exact hk
        · have := h1 b hb; omega
      · rcases List.mem_cons.1 hy with rfl | hy
        · exact hm
        · exact hl y hy
    · rw [insW_ge hk]
      have hne := hn x (by simp)
      refine ⟨(srt_cons At.key).2 ⟨fun b hb => g3 x.key (by omega) h1 b hb, g1⟩, fun k => ?_, fun m hm hl y hy => ?_⟩
      · rw [lk_cons, lk_cons, g2 k]
        by_cases h3 : x.key = k
        · rw [if_pos h3, if_pos h3, if_neg (by omega)]
        · rw [if_neg h3, if_neg h3]
      · rcases List.mem_cons.1 hy with rfl | hy
        · exact hl y (by simp)
        · exact g3 m hm (fun z hz => hl z (List.mem_cons_of_mem _ hz)) y hy
/-- what the document's With answers -/
def with05P (l : List At) (a : At) : List At := insW a (l.filter (fun x => !(x.key == a.key)))
theorem with05_is {l : List At} (h : riseA l = true) (a : At) : with05P l a = withP l a := by
  obtain ⟨h1, h2, _⟩ := with_all h a
  have hs := riseA_srt.1 h
  obtain ⟨g1, g2, _⟩ := insW_all (hs.filter At.key (fun x => !(x.key == a.key))) a (fun x hx => by have := (List.mem_filter.1 hx).2; simpa using this)
  refine lk_ext At.key g1 (riseA_srt.1 h1) fun k => ?_
  unfold with05P
  rw [g2 k, h2 k, lk_filter At.key hs]
  by_cases hk : a.key = k
  · rw [if_pos hk, if_pos hk]
  · rw [if_neg hk, if_neg hk]
    cases hl : lk At.key l k with
    | none => rfl
    | some x =>
      have := lk_key At.key hl
      have hx : ¬ x.key = a.key := by omega
      simp [Option.filter, hx]
theorem with05_len (l : List At) (a : At) : (with05P l a).length ≤ l.length + 1 := by
  unfold with05P
  rw [insW_len]
  have := List.length_filter_le (fun x => !(x.key == a.key)) l
  omega
def bnd (b : Bool) : Nat := if b = true then 1 else 0
theorem bnd_t : bnd true = 1 := rfl
theorem bnd_f : bnd false = 0 := rfl
theorem bnd_le (b : Bool) : bnd b ≤ 1 := by cases b <;> decide
/-- what is left to do -/
def insRest (inb : Bool) (a : At) (s : List At) : List At := if inb = true then s else insW a s
theorem insRest_t (a : At) (s : List At) : insRest true a s = s := rfl
theorem insRest_f (a : At) (s : List At) : insRest false a s = insW a s := rfl
set_option maxRecDepth 100000 in
set_option maxHeartbeats 1600000 in
theorem with05_any (A : Option Addr) (n c : Nat) (l : List At) (a1 a2 a3 a4 : Int) (a5 : ByteArray) (w : World) (hn : n = l.length) (h : RdAt w w.heap.size A l) (hb : n ≤ 10000000) :
    Calls Tryz.prog 170 #[.slice A n c, .agg #[.int .i64 a1, .int .u8 a2, .int .i64 a3, .int .u64 a4, .string a5]] w (NewAt (with05P l ⟨a1, ⟨a2, a3, a4, a5⟩⟩) w) := by
  have N := Lib.hid hn
  obtain ⟨R, hR⟩ : ∃ X, with05P l ⟨a1, ⟨a2, a3, a4, a5⟩⟩ = X := ⟨_, rfl⟩
  have HR := Lib.hid hR
  rw [hR]
  have y0 := ext_alloc w (.cells #[.int .i64 a1, .int .u8 a2, .int .i64 a3, .int .u64 a4, .string a5] 43)
  have HBX := Lib.hid (heap_alloc_new w (.cells #[.int .i64 a1, .int .u8 a2, .int .i64 a3, .int .u64 a4, .string a5] 43))
  clear hn hR
  go_enter Tryz.func170, Tryz.ntmps170
  go_wp2_with (go_at_call 64; refine Hid.out ?_)
  refine Lib.hid ?_
  refine (without05_any a1 A n c l _ N.out (h.ext y0) (by omega)).mono ?_
  rintro e w1 ⟨A1, c1, rfl, ho, y1⟩
  have hlf : (l.filter (fun x => !(x.key == a1))).length ≤ n := by rw [N.out]; exact List.length_filter_le _ _
  have HR2 : Hid (insW ⟨a1, ⟨a2, a3, a4, a5⟩⟩ (l.filter (fun x => !(x.key == a1))) = R) := Lib.hid HR.out
  generalize l.filter (fun x => !(x.key == a1)) = s at *
  obtain ⟨k, hk⟩ : ∃ k, k = s.length := ⟨_, rfl⟩
  rw [← hk] at ho hlf ⊢
  have K := Lib.hid hk
  have rs := ho.rd At.enc_len
  have HBX := Lib.hid ((y1.block _ (lt_of_some HBX.out)).trans HBX.out)
  have y := ext_trans y0 y1
  clear ho hk HR y0 y1
  go_wp2_with (fail)
  go_loopg [6, 7, 8] k (fun g ov bv iv wr => ∃ (m : Nat) (r : List At) (inb : Bool), m ≤ k ∧ g = k - m ∧ bv = .bool inb ∧ iv = .int .i64 (m : Int) ∧ OwAt wr w1.heap.size ov r ∧ r.length ≤ m + bnd inb ∧ Below w1.heap.size w1 wr ∧ Hid (r ++ insRest inb ⟨a1, ⟨a2, a3, a4, a5⟩⟩ (s.drop m) = R))
  case atStart => exact ⟨0, [], false, by omega, rfl, rfl, rfl, Ow.nil _ _, by simp, Below.refl _ _, Lib.hid (by simpa [insRest] using HR2.out)⟩
  case round =>
    obtain ⟨m, r, inb, hm, hg, rfl, rfl, hown, hrl, yr, HI⟩ := hrel
    have bd := bnd_le inb
    have HG := Lib.hid hg
    clear hg HR2
    have hbx := (yr.block _ (lt_of_some HBX.out)).trans HBX.out
    obtain ⟨b0, b1, b2, b3, b4⟩ := box_at hbx
    have HB2 := Lib.hid hbx
    clear hbx
    by_cases hlt : m < k
    · obtain ⟨ad, x, rfl, hd1, hx1, hc0⟩ := (rs.ext yr).elIn (i := m) (by have := K.out; omega)
      have hst := HI.out
      rw [hd1] at hst
      obtain ⟨x1, x2, x3, x4, x5⟩ := x
      have CX := Lib.hid hc0
      obtain ⟨r0, r1, r2, r3, r4⟩ := at_cells CX.out.2
      have HST := Lib.hid hst
      have hw2 : IntKind.i64.wrap ((m:Int) + 1) = (m : Int) + 1 := IntWalk.i64_in _ (by omega)
      have HX1 := Lib.hid hx1
      clear hst hc0 hd1 hx1 HI
      cases inb with
      | true =>
        have HN : Hid ((r ++ [⟨x1, ⟨x2, x3, x4, x5⟩⟩]) ++ insRest true ⟨a1, ⟨a2, a3, a4, a5⟩⟩ (s.drop (m + 1)) = R) := Lib.hid (by rw [← HST.out]; simp [insRest])
        go_wp2_with (first
          | go_quiet (fail)
          | (at_builtin; refine app_at (m := [⟨x1, ⟨x2, x3, x4, x5⟩⟩]) rfl (.tmp 35) (.tmp 40) rfl rfl (by first | exact (hown.drewN _).alloc _ | exact hown.alloc _) _ _ 1 1 rfl rfl (by exact rd_one _ _ _ rfl) (by simp only [List.length_singleton]; omega) (by exact Nat.le_trans yr.size (le_alloc _ _)) ?_; intro v' w' hown' hgr hv'))
        have s1 := below_app (by first | exact (below_drewN yr _).alloc yr.size _ | exact yr.alloc yr.size _) (by exact Nat.le_trans yr.size (le_alloc _ _)) (by first | exact (hown.drewN _).alloc _ | exact hown.alloc _) (Nat.le_refl _) hgr
        go_roundg (k - (m + 1))
        case measure => have := HG.out; omega
        case rel => exact ⟨m + 1, r ++ [⟨x1, ⟨x2, x3, x4, x5⟩⟩], true, by omega, rfl, rfl, by go_num, hown', by have := bnd_t; simp; omega, s1, HN⟩
      | false =>
        by_cases hk : a1 < x1
        · have HN : Hid ((r ++ [⟨a1, ⟨a2, a3, a4, a5⟩⟩]) ++ [⟨x1, ⟨x2, x3, x4, x5⟩⟩] ++ insRest true ⟨a1, ⟨a2, a3, a4, a5⟩⟩ (s.drop (m + 1)) = R) := Lib.hid (by rw [← HST.out, insRest_f, insRest_t, insW_lt (a := ⟨a1, ⟨a2, a3, a4, a5⟩⟩) (x := ⟨x1, ⟨x2, x3, x4, x5⟩⟩) hk]; simp)
          go_wp2_with (first
            | go_quiet (fail)
            | (at_builtin
               refine app_at (m := [⟨a1, ⟨a2, a3, a4, a5⟩⟩]) rfl (.tmp 31) (.tmp 33) rfl rfl (by first | exact (hown.drewN _).alloc _ | exact hown.alloc _) _ _ 1 1 rfl rfl (by exact rd_one _ _ _ rfl) (by simp only [List.length_singleton]; omega) (by exact Nat.le_trans yr.size (le_alloc _ _)) ?_
               intro v' w' ho1 hgr hv'
               have s1 := below_app (by first | exact (below_drewN yr _).alloc yr.size _ | exact yr.alloc yr.size _) (by exact Nat.le_trans yr.size (le_alloc _ _)) (by first | exact (hown.drewN _).alloc _ | exact hown.alloc _) (Nat.le_refl _) hgr
               obtain ⟨ad', x', hA, -, hx2, hc0⟩ := (rs.ext s1).elIn (i := m) (by have := K.out; omega)
               injection hA with hA
               subst hA
               have hx3 := HX1.out
               rw [hx2] at hx3
               injection hx3 with hx3
               subst hx3
               obtain ⟨g0, g1, g2, g3, g4⟩ := at_cells hc0.2
               clear hx2 hc0 hgr hv')
            | (at_builtin; refine app_at (m := [⟨x1, ⟨x2, x3, x4, x5⟩⟩]) rfl (.tmp 35) (.tmp 40) rfl rfl (by first | exact (ho1.drewN _).alloc _ | exact ho1.alloc _) _ _ 1 1 rfl rfl (by exact rd_one _ _ _ rfl) (by simp only [List.length_singleton, List.length_append]; omega) (by exact Nat.le_trans s1.size (le_alloc _ _)) ?_; intro v' w' hown' hgr hv'))
          have s2 := below_app (by first | exact (below_drewN s1 _).alloc s1.size _ | exact s1.alloc s1.size _) (by exact Nat.le_trans s1.size (le_alloc _ _)) (by first | exact (ho1.drewN _).alloc _ | exact ho1.alloc _) (Nat.le_refl _) hgr
          go_roundg (k - (m + 1))
          case measure => have := HG.out; omega
          case rel => exact ⟨m + 1, r ++ [⟨a1, ⟨a2, a3, a4, a5⟩⟩] ++ [⟨x1, ⟨x2, x3, x4, x5⟩⟩], true, by omega, rfl, rfl, by go_num, hown', by have := bnd_t; have := bnd_f; simp; omega, s2, HN⟩
        · have HN : Hid ((r ++ [⟨x1, ⟨x2, x3, x4, x5⟩⟩]) ++ insRest false ⟨a1, ⟨a2, a3, a4, a5⟩⟩ (s.drop (m + 1)) = R) := Lib.hid (by rw [← HST.out, insRest_f, insRest_f, insW_ge (a := ⟨a1, ⟨a2, a3, a4, a5⟩⟩) (x := ⟨x1, ⟨x2, x3, x4, x5⟩⟩) hk]; simp)
          go_wp2_with (first
            | go_quiet (fail)
            | (at_builtin; refine app_at (m := [⟨x1, ⟨x2, x3, x4, x5⟩⟩]) rfl (.tmp 35) (.tmp 40) rfl rfl (by first | exact (hown.drewN _).alloc _ | exact hown.alloc _) _ _ 1 1 rfl rfl (by exact rd_one _ _ _ rfl) (by simp only [List.length_singleton]; omega) (by exact Nat.le_trans yr.size (le_alloc _ _)) ?_; intro v' w' hown' hgr hv'))
          have s1 := below_app (by first | exact (below_drewN yr _).alloc yr.size _ | exact yr.alloc yr.size _) (by exact Nat.le_trans yr.size (le_alloc _ _)) (by first | exact (hown.drewN _).alloc _ | exact hown.alloc _) (Nat.le_refl _) hgr
          go_roundg (k - (m + 1))
          case measure => have := HG.out; omega
          case rel => exact ⟨m + 1, r ++ [⟨x1, ⟨x2, x3, x4, x5⟩⟩], false, by omega, rfl, rfl, by go_num, hown', by have := bnd_f; simp; omega, s1, HN⟩
    · have HE : Hid (r ++ insRest inb ⟨a1, ⟨a2, a3, a4, a5⟩⟩ [] = R) := Lib.hid (by have h := HI.out; rwa [List.drop_eq_nil_of_le (by have := K.out; omega)] at h)
      cases inb with
      | true =>
        have hR : r = R := by have h := HE.out; simpa [insRest] using h
        subst hR
        obtain ⟨A', c', rfl, _, _⟩ := hown.form
        have HOW := Lib.hid (hown.base_le (B := w.heap.size) y.size)
        clear hown
        go_wp2_with (fail)
        go_ret
        exact ⟨A', c', rfl, HOW.out, ext_trans y yr⟩
      | false =>
        have hR : r ++ [⟨a1, ⟨a2, a3, a4, a5⟩⟩] = R := by have h := HE.out; simpa [insRest, insW] using h
        have HRR := Lib.hid hR
        clear hR
        go_wp2_with (first
          | go_quiet (fail)
          | (at_builtin; refine app_at (m := [⟨a1, ⟨a2, a3, a4, a5⟩⟩]) rfl (.tmp 44) (.tmp 46) rfl rfl (by first | exact (hown.drewN _).alloc _ | exact hown.alloc _) _ _ 1 1 rfl rfl (by exact rd_one _ _ _ rfl) (by simp only [List.length_singleton]; omega) (by exact Nat.le_trans yr.size (le_alloc _ _)) ?_; intro v' w' hown' hgr hv'))
        have s1 := below_app (by first | exact (below_drewN yr _).alloc yr.size _ | exact yr.alloc yr.size _) (by exact Nat.le_trans yr.size (le_alloc _ _)) (by first | exact (hown.drewN _).alloc _ | exact hown.alloc _) (Nat.le_refl _) hgr
        rw [HRR.out] at hown'
        obtain ⟨A', c', rfl, _, _⟩ := hown'.form
        have HOW := Lib.hid (hown'.base_le (B := w.heap.size) y.size)
        clear hown'
        go_ret
        exact ⟨A', c', rfl, HOW.out, ext_trans y s1⟩

end Go.Proofs.YtfnkjcodcoehcaaGreatDoor
namespace Go.Proofs.YtfnkjcodcoehcaaGreatDoor
open Go.RowKit
set_option linter.unusedVariables false
set_option linter.unusedSimpArgs false

/-- one change done to a set -/
def apply1 (o : List At) (c : Ch) : List At := if c.gone = true then o.filter (fun a => !(a.key == c.key)) else with05P o ⟨c.key, c.v⟩
/-- what the document's Apply of patches answers -/
def applyR (p : List Ch) (s : List At) : List At := p.foldl apply1 s
theorem filt_all {l : List At} (h : riseA l = true) (c : Int) :
    riseA (l.filter (fun a => !(a.key == c))) = true ∧ (∀ k, lk At.key (l.filter (fun a => !(a.key == c))) k = if c = k then none else lk At.key l k) := by
  have hs := riseA_srt.1 h
  refine ⟨riseA_srt.2 (hs.filter At.key _), fun k => ?_⟩
  rw [lk_filter At.key hs]
  cases hl : lk At.key l k with
  | none => simp
  | some a =>
    have := lk_key At.key hl
    by_cases hc : c = k
    · simp [hc, Option.filter, this]
    · have : ¬ a.key = c := by omega
      simp [hc, Option.filter, this]
theorem apply1_all {o : List At} (ho : riseA o = true) (c : Ch) : riseA (apply1 o c) = true ∧ ∀ k, lk At.key (apply1 o c) k = if c.key = k then lkApply (some c) (lk At.key o k) else lk At.key o k := by
  unfold apply1
  by_cases hg : c.gone = true
  · rw [if_pos hg]
    obtain ⟨h1, h2⟩ := filt_all ho c.key
    refine ⟨h1, fun k => ?_⟩
    rw [h2 k]
    split
    · simp [lkApply, hg]
    · rfl
  · rw [if_neg hg, with05_is ho]
    obtain ⟨h1, h2, _⟩ := with_all ho ⟨c.key, c.v⟩
    refine ⟨h1, fun k => ?_⟩
    rw [h2 k]
    simp [lkApply, hg]
theorem applyR_all : ∀ {p : List Ch}, Srt Ch.key p → ∀ {s : List At}, riseA s = true → riseA (applyR p s) = true ∧ ∀ k, lk At.key (applyR p s) k = lkApply (lk Ch.key p k) (lk At.key s k)
  | [], _, s, hs => ⟨hs, fun k => rfl⟩
  | c :: p, hp, s, hs => by
    obtain ⟨h1, h2⟩ := (srt_cons Ch.key).1 hp
    obtain ⟨a1, a2⟩ := apply1_all hs c
    obtain ⟨b1, b2⟩ := applyR_all h2 a1
    have e : applyR (c :: p) s = applyR p (apply1 s c) := rfl
    rw [e]
    refine ⟨b1, fun k => ?_⟩
    rw [b2 k, a2 k, lk_cons]
    by_cases hk : c.key = k
    · rw [if_pos hk, if_pos hk, lk_none Ch.key (fun d hd => by have := h1 d hd; omega)]
      rfl
    · rw [if_neg hk, if_neg hk]
theorem applyR_is {p : List Ch} {s : List At} (hp : riseC p = true) (hs : riseA s = true) : applyR p s = applyP p s := by
  obtain ⟨a1, a2⟩ := applyR_all (riseC_srt.1 hp) hs
  obtain ⟨b1, b2, _⟩ := apply_all (riseC_srt.1 hp) (riseA_srt.1 hs)
  exact lk_ext At.key (riseA_srt.1 a1) b1 fun k => by rw [a2 k, b2 k]
theorem apply1_len (o : List At) (c : Ch) : (apply1 o c).length ≤ o.length + 1 := by
  unfold apply1
  split
  · exact Nat.le_succ_of_le (List.length_filter_le _ _)
  · exact with05_len _ _
end Go.Proofs.YtfnkjcodcoehcaaGreatDoor
namespace Go.Proofs.YtfnkjcodcoehcaaGreatDoor
open Go.RowKit
set_option linter.unusedVariables false
set_option linter.unusedSimpArgs false

set_option maxRecDepth 100000 in
set_option maxHeartbeats 3200000 in
theorem apply06_any (A B : Option Addr) (n c k d : Nat) (s : List At) (p : List Ch) (w : World) (hn : n = s.length) (hk : k = p.length) (h1 : RdAt w w.heap.size A s) (h2 : RdCh w w.heap.size B p) (hb : n ≤ 1000000) (hb2 : k ≤ 1000000) :
    Calls Tryz.prog 95 #[.slice A n c, .slice B k d] w (NewAt (applyR p s) w) := by
  have N := Lib.hid hn
  have K := Lib.hid hk
  have H1 := Lib.hid h1
  have H2 := Lib.hid h2
  obtain ⟨R, hR⟩ : ∃ X, applyR p s = X := ⟨_, rfl⟩
  have HR := Lib.hid hR
  rw [hR]
  clear hn hk h1 h2 hR
  go_enter Tryz.func95, Tryz.ntmps95
  go_wp2_with ((at_builtin; refine app_at (l := []) (m := s) rfl (.tmp 7) (.tmp 8) rfl rfl (by exact Ow.empty _ w.heap.size _) _ _ _ _ rfl N.out (by exact H1.out.ext (ext_alloc w _)) (by have := N.out; simp only [List.length_nil]; omega) (by simp) ?_; intro v1 w1 ho1 g1 hv1))
  rw [List.nil_append] at ho1
  have O1 := Lib.hid ho1
  have Y1 : Hid (Below w.heap.size w w1) := Lib.hid ((ext_alloc w _).grown g1 (by simp) (fun k hk => by cases hk))
  clear ho1 g1 hv1
  go_wp2_with (fail)
  go_loopg [5, 6] k (fun g ov iv wr => ∃ (m : Nat) (r : List At), m ≤ k ∧ g = k - m ∧ iv = .int .i64 (m : Int) ∧ OwAt wr w.heap.size ov r ∧ r.length ≤ n + m ∧ Below w.heap.size w wr ∧ Hid (applyR (p.drop m) r = R))
  case atStart => exact ⟨0, s, Nat.zero_le _, rfl, rfl, O1.out, by have := N.out; omega, Y1.out, Lib.hid (by rw [List.drop_zero]; exact HR.out)⟩
  case round =>
    obtain ⟨m, r, hm, hg, rfl, hown, hrl, y, HI⟩ := hrel
    have HG := Lib.hid hg
    clear hg HR O1 Y1
    by_cases hlt : m < k
    · have hlt' : (m : Int) < (k : Int) := by omega
      obtain ⟨ad, x, rfl, hd1, hx1, hc0⟩ := (H2.out.ext y).elIn (i := m) (by have := K.out; omega)
      have hst := HI.out
      rw [hd1] at hst
      obtain ⟨x1, x6, x2, x3, x4, x5⟩ := x
      have CX := Lib.hid hc0
      have HST : Hid (applyR (p.drop (m + 1)) (apply1 r ⟨x1, x6, ⟨x2, x3, x4, x5⟩⟩) = R) := Lib.hid hst
      have HL : Hid ((apply1 r ⟨x1, x6, ⟨x2, x3, x4, x5⟩⟩).length ≤ n + (m + 1)) := Lib.hid (by have := apply1_len r ⟨x1, x6, ⟨x2, x3, x4, x5⟩⟩; omega)
      have hw2 : IntKind.i64.wrap ((m:Int) + 1) = (m : Int) + 1 := IntWalk.i64_in _ (by omega)
      obtain ⟨A1, c1, rfl, _, _⟩ := hown.form
      have RR := Lib.hid (hown.rd At.enc_len)
      have YS := Lib.hid y.size
      have LB : Hid (r.length ≤ 2000000) := Lib.hid (by omega)
      clear hst hc0 hd1 hx1 HI hown
      obtain ⟨r0, r1, r2, r3, r4, r5⟩ := ch_cells CX.out.2
      cases x6 with
      | true =>
        have HE : Hid (apply1 r ⟨x1, true, ⟨x2, x3, x4, x5⟩⟩ = r.filter (fun a => !(a.key == x1))) := Lib.hid rfl
        go_wp2_with (go_at_call 64; refine Hid.out ?_)
        refine Lib.hid ?_
        refine (without05_any x1 A1 r.length c1 r _ rfl RR.out (by have := LB.out; omega)).mono ?_
        rw [← HE.out]
        rintro e w3 ⟨A3, c3, rfl, o3, y3⟩
        have O3 := Lib.hid (o3.base_le (B := w.heap.size) YS.out)
        have Y3 := Lib.hid (ext_trans y y3)
        clear o3 y3
        go_wp2_with (fail)
        go_roundg (k - (m + 1))
        case measure => have := HG.out; omega
        case rel => exact ⟨m + 1, _, by omega, rfl, by go_num, O3.out, HL.out, Y3.out, HST⟩
      | false =>
        have HE : Hid (apply1 r ⟨x1, false, ⟨x2, x3, x4, x5⟩⟩ = with05P r ⟨x1, ⟨x2, x3, x4, x5⟩⟩) := Lib.hid rfl
        go_wp2_with (fail)
        go_region_held3 (fun w' => w'.cell? (ad.add (m * 6)) = some (.int .i64 x1) ∧ w'.cell? { block := (ad.add (m * 6)).block, off := (ad.add (m * 6)).off + 2 } = some (.int .u8 x2) ∧ w'.cell? { block := (ad.add (m * 6)).block, off := (ad.add (m * 6)).off + 3 } = some (.int .i64 x3) ∧ w'.cell? { block := (ad.add (m * 6)).block, off := (ad.add (m * 6)).off + 4 } = some (.int .u64 x4) ∧ w'.cell? { block := (ad.add (m * 6)).block, off := (ad.add (m * 6)).off + 5 } = some (.string x5)) (go_keep) (first
          | (go_at_call 170
             with_reducible refine (with05_any A1 r.length c1 r x1 x2 x3 x4 x5 wr.drew rfl (RR.out.ext (up_drew (Below.refl _ _))) (by have := LB.out; omega)).mono ?_
             rw [← HE.out]
             rintro e w3 ⟨A3, c3, rfl, o3, y3⟩
             have O3 := Lib.hid (o3.base_le (B := w.heap.size) YS.out)
             have Y3 := Lib.hid (ext_trans y (ext_trans (up_drew (Below.refl _ _)) y3))
             obtain ⟨q0, q1, q2, q3, q4, q5⟩ := ch_cells (CX.out.ext (ext_trans (up_drew (Below.refl _ _)) y3)).2
             clear o3 y3))
        go_wp2_with (fail)
        go_roundg (k - (m + 1))
        case measure => have := HG.out; omega
        case rel => exact ⟨m + 1, _, by omega, rfl, by go_num, O3.out, HL.out, Y3.out, HST⟩
    · have hlt' : ¬ (m : Int) < (k : Int) := by omega
      have hR : r = R := by
        have h := HI.out
        rw [List.drop_eq_nil_of_le (by have := K.out; omega)] at h
        exact h
      subst hR
      obtain ⟨A', c', rfl, _, _⟩ := hown.form
      have HOW := Lib.hid hown
      clear hown
      go_wp2_with (fail)
      go_ret
      exact ⟨A', c', rfl, HOW.out, y⟩
end Go.Proofs.YtfnkjcodcoehcaaGreatDoor
namespace Go.Proofs.YtfnkjcodcoehcaaGreatDoor
open Go.RowKit
set_option linter.unusedVariables false
set_option linter.unusedSimpArgs false

set_option maxRecDepth 100000 in
set_option maxHeartbeats 3200000 in
theorem cell19_any (A0 : Option Addr) (n0 c0 : Nat) (l : List Ky) (r : Int) (As Ap : Option Addr) (n cs np cp : Nat) (set : List At) (p : List Ch) (w : World) (hn0 : n0 = l.length) (hK : RdKy w w.heap.size A0 l) (b0 : n0 ≤ 1048576) (hn : n = set.length) (hp : np = p.length) (h1 : RdAt w w.heap.size As set) (h2 : RdCh w w.heap.size Ap p)
    (b1 : n ≤ 1000000) (b2 : np ≤ 1000000) (rs : riseA set = true) (rp : riseC p = true) :
    Calls Tryz.prog 38 #[.slice A0 n0 c0, .agg #[.int .i32 r, .slice As n cs], .slice Ap np cp] w
      fun e w' => ∃ A c, e = .returned (.agg #[.int .i32 r, .slice A (actC l ⟨r, set⟩ p).s.length c]) ∧ OwAt w' w.heap.size (.slice A (actC l ⟨r, set⟩ p).s.length c) (actC l ⟨r, set⟩ p).s ∧ Below w.heap.size w w' := by
  have ya := ext_alloc w (.cells #[.int .i32 r, .slice As n cs] 38)
  have yb := ext_alloc (w.alloc (.cells #[.int .i32 r, .slice As n cs] 38)) (.cells #[.int .i32 0, .slice none 0 0] 38)
  have g1' := heap_alloc_new w (.cells #[.int .i32 r, .slice As n cs] 38)
  have g2' := heap_alloc_new (w.alloc (.cells #[.int .i32 r, .slice As n cs] 38)) (.cells #[.int .i32 0, .slice none 0 0] 38)
  have G1 := (yb.block w.heap.size (by simp)).trans g1'
  rw [World.size_alloc] at g2'
  have y := ext_trans ya yb
  have N := Lib.hid hn
  have P := Lib.hid hp
  have HN0 := Lib.hid hn0
  have HK := Lib.hid hK
  clear hn0 hK
  have HR : Hid (∃ X, (actC l ⟨r, set⟩ p).s = X ∧ applyR (partP l (r == 10) p) set = X) := Lib.hid ⟨_, rfl, applyR_is (riseC_srt.2 ((riseC_srt.1 rp).filter Ch.key _)) rs⟩
  obtain ⟨X, hX1, hX2⟩ := HR.out
  rw [hX1]
  have HX := Lib.hid hX2
  clear ya yb g1' hX1 hX2 HR hn hp
  have hbp : (partP l (r == 10) p).length ≤ np := by rw [P.out]; exact List.length_filter_le _ _
  have BND : Hid (np ≤ 1000000) := Lib.hid b2
  go_enter Tryz.func38, Tryz.ntmps38
  go_wp2_with (fail)
  obtain ⟨sz, hsz⟩ : ∃ z, w.heap.size = z := ⟨_, rfl⟩
  have HSZ := Lib.hid hsz
  generalize ((w.alloc (.cells #[.int .i32 r, .slice As n cs] 38)).alloc (.cells #[.int .i32 0, .slice none 0 0] 38)) = v at *
  have Y := Lib.hid y
  have HG1 := Lib.hid G1
  have HG2 := Lib.hid g2'
  obtain ⟨a0, a1⟩ := box_cl G1
  obtain ⟨e0, e1⟩ := box_cl g2'
  have hlt1 := lt_of_some G1
  have hlt2 := lt_of_some g2'
  rw [hsz] at a0 a1 e0 e1 hlt1 hlt2 ⊢
  have SF : Hid (∀ u, Below v.heap.size v u → (u.cell? ⟨sz, 0, none⟩ = some (.int .i32 r) ∧ u.cell? ⟨sz, 1, none⟩ = some (.slice As n cs)) ∧ (u.cell? ⟨sz + 1, 0, none⟩ = some (.int .i32 0) ∧ u.cell? ⟨sz + 1, 1, none⟩ = some (.slice none 0 0)) ∧ u.heap[sz + 1]? = some (.cells #[.int .i32 0, .slice none 0 0] 38 (0, 0))) := Lib.hid (fun u hu => by
    have q1 := (hu.block _ (by rw [← HSZ.out] at hlt1; exact hlt1)).trans HG1.out
    have q2 := (hu.block _ (by rw [← HSZ.out] at hlt2; exact hlt2)).trans HG2.out
    rw [HSZ.out] at q1 q2
    exact ⟨box_cl q1, box_cl q2, q2⟩)
  have hf0 : v.frozen? ⟨sz + 1, 0, none⟩ = false := box_thaw (SF.out v (Below.refl _ _)).2.2 0
  clear G1 g2' hlt1 hlt2 y hsz
  go_region_law (first
    | (refine step_fn rfl 96 [.tmp 11, .tmp 12, .tmp 15] #[22, 48, 4] rfl Tryz.f96 (by kernel_rfl) (by kernel_rfl) (by kernel_rfl) [.slice A0 n0 c0, .slice Ap np cp, .bool (r == 10)] (by rfl) (partR6_any A0 Ap n0 c0 np cp l (r == 10) p v.drew HN0.out (HK.out.ext (up_drew Y.out)) (by omega) P.out (h2.ext (up_drew Y.out)) (by omega)) ?_
       rintro e w3 ⟨A3, k3, rfl, o3, y3⟩
       refine ⟨_, rfl, ?_⟩
       have O3 := Lib.hid o3
       have Y3 : Hid (Below v.heap.size v w3) := Lib.hid ((up_drew (Below.refl _ _)).trans y3)
       obtain ⟨⟨c0, c1⟩, ⟨c2, c3⟩, c4⟩ := SF.out w3 Y3.out
       clear o3 y3)
    | (refine step_fn rfl 95 [.tmp 10, .tmp 16] #[36, 48] rfl Tryz.f95 (by kernel_rfl) (by kernel_rfl) (by kernel_rfl) [.slice As n cs, .slice A3 (partP l (r == 10) p).length k3] (by rfl) (apply06_any As A3 n cs (partP l (r == 10) p).length k3 set (partP l (r == 10) p) w3 N.out rfl (h1.ext (ext_trans Y.out Y3.out)) (O3.out.rd Ch.enc_len) b1 (by have := BND.out; omega)) ?_
       rw [HX.out]
       rintro e w4 ⟨A4, k4, rfl, o4, y4⟩
       refine ⟨_, rfl, ?_⟩
       have O4 := Lib.hid o4
       have Y4 : Hid (Below v.heap.size v w4) := Lib.hid (ext_trans Y3.out y4)
       obtain ⟨⟨d0, d1⟩, ⟨d2, d3⟩, d4⟩ := SF.out w4 Y4.out
       have hf4 : w4.frozen? ⟨sz + 1, 0, none⟩ = false := box_thaw d4 0
       have hf5 : w4.frozen? ⟨sz + 1, 1, none⟩ = false := box_thaw d4 1
       clear o4 y4))
  all_goals
    go_wp2_with (fail)
    have q1 : ((w4.setCell ⟨sz + 1, 0, none⟩ (.int .i32 r)).setCell ⟨sz + 1, 1, none⟩ (.slice A4 X.length k4)).heap[sz + 1]? = some (.cells #[.int .i32 r, .slice A4 X.length k4] 38 (0, 0)) := by
      have h1 := heap_setCell_self (j := 0) d4 (.int .i32 r)
      have h2 := heap_setCell_self (j := 1) h1 (.slice A4 X.length k4)
      simpa using h2
    refine bodyPost_ret (results_cell_row (P := Tryz.prog) rfl _ _ (sz + 1) 38 #[.int .i32 r, .slice A4 X.length k4] (0, 0) _ rfl q1 Tryz.unCl rfl Tryz.szCl) rfl ?_
    have ha := (O4.out.base_le (B := w.heap.size) (by have := Y3.out.size; have := Y.out.size; omega))
    have hne : ∀ k, wb (.slice A4 X.length k4) = some k → k ≠ sz + 1 := fun k hk => by
      have := (O4.out.wb_lt k hk).1
      have := lt_of_some c4
      omega
    refine ⟨A4, k4, rfl, (ha.setCell (p := ⟨sz + 1, 0, none⟩) (fun e => hne _ e rfl) _).setCell (p := ⟨sz + 1, 1, none⟩) (fun e => hne _ e rfl) _, ?_⟩
    exact ((ext_trans Y.out Y4.out).setCell (p := ⟨sz + 1, 0, none⟩) (by have := HSZ.out; simp only; omega) _).setCell (p := ⟨sz + 1, 1, none⟩) (by have := HSZ.out; simp only; omega) _
end Go.Proofs.YtfnkjcodcoehcaaGreatDoor
