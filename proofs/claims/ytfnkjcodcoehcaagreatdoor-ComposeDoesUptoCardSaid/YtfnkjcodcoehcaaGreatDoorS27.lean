/- Merged texts: RefSet, RefPut. -/
import Derived.Test.YtfnkjcodcoehcaaGreatDoorS24
import Derived.Test.YtfnkjcodcoehcaaGreatDoorS15
import Derived.Test.YtfnkjcodcoehcaaGreatDoorS11
namespace Go.Proofs.YtfnkjcodcoehcaaGreatDoor
open Go.RowKit
set_option linter.unusedVariables false
set_option linter.unusedSimpArgs false

theorem or_yes {a : Bool} {P Q : Prop} (h : a = true ∧ P ∨ a = false ∧ Q) (ha : a = true) : P := by
  rcases h with ⟨_, h⟩ | ⟨h, _⟩
  · exact h
  · rw [ha] at h; cases h
theorem or_no {a : Bool} {P Q : Prop} (h : a = true ∧ P ∨ a = false ∧ Q) (ha : a = false) : Q := by
  rcases h with ⟨h, _⟩ | ⟨_, h⟩
  · rw [ha] at h; cases h
  · exact h
theorem filter_drop {α : Type} {p : α → Bool} {s : List α} {m : Nat} {x : α} {r R : List α} (hd : s.drop m = x :: s.drop (m + 1)) (h : r ++ (s.drop m).filter p = R) :
    p x = true ∧ (r ++ [x]) ++ (s.drop (m + 1)).filter p = R ∨ p x = false ∧ r ++ (s.drop (m + 1)).filter p = R := by
  rw [hd, List.filter_cons] at h
  cases hp : p x with
  | true => rw [hp, if_pos rfl] at h; exact .inl ⟨rfl, by rw [← h]; simp⟩
  | false => rw [hp] at h; simp only [Bool.false_eq_true, if_false] at h; exact .inr ⟨rfl, h⟩

set_option maxRecDepth 100000 in
set_option maxHeartbeats 1600000 in
theorem without05_any (key : Int) (A : Option Addr) (n c : Nat) (l : List At) (w : World) (hn : n = l.length) (h : RdAt w w.heap.size A l) (hb : n ≤ 100000000) :
    Calls Tryz.prog 64 #[.slice A n c, .int .i64 key] w (NewAt (l.filter (fun a => !(a.key == key))) w) := by
  have N := Lib.hid hn
  obtain ⟨R, hR⟩ : ∃ X, l.filter (fun a => !(a.key == key)) = X := ⟨_, rfl⟩
  have HR := Lib.hid hR
  rw [hR]
  clear hn hR
  go_enter Tryz.func64, Tryz.ntmps64
  go_wp2_with (fail)
  go_loopg [5, 6] n (fun g ov iv wr => ∃ (m : Nat) (r : List At), m ≤ n ∧ g = n - m ∧ iv = .int .i64 (m : Int) ∧ OwAt wr w.heap.size ov r ∧ r.length ≤ m ∧ Below w.heap.size w wr ∧ Hid (r ++ (l.drop m).filter (fun a => !(a.key == key)) = R))
  case atStart => exact ⟨0, [], by omega, rfl, rfl, Ow.nil _ _, by simp, Below.refl _ _, Lib.hid (by simpa using HR.out)⟩
  case round =>
    obtain ⟨m, r, hm, hg, rfl, hown, hrl, y, HI⟩ := hrel
    have HG := Lib.hid hg
    clear hg HR
    by_cases hlt : m < n
    · obtain ⟨ad, x, rfl, hd1, hx1, hc0⟩ := (h.ext y).elIn (i := m) (by have := N.out; omega)
      have hst := filter_drop hd1 HI.out
      obtain ⟨x1, x2, x3, x4, x5⟩ := x
      have CX := Lib.hid hc0
      obtain ⟨r0, r1, r2, r3, r4⟩ := at_cells CX.out.2
      have HST := Lib.hid hst
      have hw2 : IntKind.i64.wrap ((m:Int) + 1) = (m : Int) + 1 := IntWalk.i64_in _ (by omega)
      clear hst hc0 hd1 hx1 HI
      by_cases hk : x1 = key
      · have hk2 : (x1 == key) = true := beq_iff_eq.2 hk
        have hk3 : (x1 != key) = false := by rw [bne, hk2]; rfl
        have HN : Hid (r ++ (l.drop (m + 1)).filter (fun a => !(a.key == key)) = R) := Lib.hid (or_no HST.out (by simp [hk]))
        clear hk
        go_wp2_with (fail)
        go_roundg (n - (m + 1))
        case measure => have := HG.out; omega
        case rel => exact ⟨m + 1, r, by omega, rfl, by go_num, by first | exact hown | exact hown.drewN _, by omega, by first | exact y | exact below_drewN y _, HN⟩
      · have hk2 : (x1 == key) = false := beq_eq_false_iff_ne.2 hk
        have hk3 : (x1 != key) = true := by rw [bne, hk2]; rfl
        have HN : Hid ((r ++ [⟨x1, ⟨x2, x3, x4, x5⟩⟩]) ++ (l.drop (m + 1)).filter (fun a => !(a.key == key)) = R) := Lib.hid (or_yes HST.out (by simp [hk2]))
        clear hk
        go_wp2_with ((at_builtin; refine app_at (m := [⟨x1, ⟨x2, x3, x4, x5⟩⟩]) rfl (.tmp 20) (.tmp 25) rfl rfl (by first | exact (hown.drewN _).alloc _ | exact hown.alloc _) _ _ 1 1 rfl rfl (by first | exact rd_one _ _ _ rfl | exact rd_one_at (enc := At.enc) (size := 5) (w3.alloc _) _ ⟨x1, ⟨x2, x3, x4, x5⟩⟩ rfl (by rw [World.size_alloc])) (by simp only [List.length_singleton]; omega) (by exact Nat.le_trans y.size (le_alloc _ _)) ?_; intro v' w' hown' hgr hv'))
        have s1 := below_app (by first | exact (below_drewN y _).alloc y.size _ | exact y.alloc y.size _) (by exact Nat.le_trans y.size (le_alloc _ _)) (by first | exact (hown.drewN _).alloc _ | exact hown.alloc _) (Nat.le_refl _) hgr
        go_roundg (n - (m + 1))
        case measure => have := HG.out; omega
        case rel => exact ⟨m + 1, r ++ [⟨x1, ⟨x2, x3, x4, x5⟩⟩], by omega, rfl, by go_num, hown', by simp; omega, s1, HN⟩
    · have hR : r = R := by
        have h := HI.out
        rw [List.drop_eq_nil_of_le (by have := N.out; omega)] at h
        simpa using h
      subst hR
      obtain ⟨A', c', rfl, _, _⟩ := hown.form
      have HOW := Lib.hid hown
      clear hown
      go_wp2_with (fail)
      go_ret
      exact ⟨A', c', rfl, HOW.out, y⟩

/-- a put in ahead of the first one whose key is greater -/
def insW (a : At) : List At → List At
  | [] => [a]
  | x :: t => if a.key < x.key then a :: x :: t else x :: insW a t
theorem insW_len (a : At) : ∀ s : List At, (insW a s).length = s.length + 1
  | [] => rfl
  | x :: t => by unfold insW; split <;> simp [insW_len a t]
theorem insW_lt {a x : At} {t : List At} (h : a.key < x.key) : insW a (x :: t) = a :: x :: t := by rw [insW, if_pos h]
theorem insW_ge {a x : At} {t : List At} (h : ¬ a.key < x.key) : insW a (x :: t) = x :: insW a t := by rw [insW, if_neg h]
theorem insW_all {s : List At} (hs : Srt At.key s) (a : At) (hn : ∀ x ∈ s, x.key ≠ a.key) : Srt At.key (insW a s) ∧ (∀ k, lk At.key (insW a s) k = if a.key = k then some a else lk At.key s k) ∧ ∀ m : Int, m < a.key → (∀ x ∈ s, m < x.key) → ∀ x ∈ insW a s, m < x.key := by
  induction s with
  | nil => exact ⟨(srt_cons At.key).2 ⟨by simp, Srt.nil At.key⟩, fun k => by rw [insW, lk_cons], fun m h _ x hx => by simp [insW] at hx; subst hx; exact h⟩
  | cons x t ih =>
    obtain ⟨h1, h2⟩ := (srt_cons At.key).1 hs
    obtain ⟨g1, g2, g3⟩ := ih h2 (fun y hy => hn y (List.mem_cons_of_mem _ hy))
    by_cases hk : a.key < x.key
    · rw [insW_lt hk]
      refine ⟨(srt_cons At.key).2 ⟨fun b hb => ?_, hs⟩, fun k => by rw [lk_cons], fun m hm hl y hy => ?_⟩
      · rcases List.mem_cons.1 hb with rfl | hb
        · exact hk
        · have := h1 b hb; omega
      · rcases List.mem_cons.1 hy with rfl | hy
        · exact hm
        · exact hl y hy
    · rw [insW_ge hk]
      have hne := hn x (by simp)
      refine ⟨(srt_cons At.key).2 ⟨fun b hb => g3 x.key (by omega) h1 b hb, g1⟩, fun k => ?_, fun m hm hl y hy => ?_⟩
      · rw [lk_cons, lk_cons, g2 k]
        by_cases h3 : x.key = k
        · rw [if_pos h3, if_pos h3, if_neg (by omega)]
        · rw [if_neg h3, if_neg h3]
      · rcases List.mem_cons.1 hy with rfl | hy
        · exact hl y (by simp)
        · exact g3 m hm (fun z hz => hl z (List.mem_cons_of_mem _ hz)) y hy
/-- what the document's With answers -/
def with05P (l : List At) (a : At) : List At := insW a (l.filter (fun x => !(x.key == a.key)))
theorem with05_is {l : List At} (h : riseA l = true) (a : At) : with05P l a = withP l a := by
  obtain ⟨h1, h2, _⟩ := with_all h a
  have hs := riseA_srt.1 h
  obtain ⟨g1, g2, _⟩ := insW_all (hs.filter At.key (fun x => !(x.key == a.key))) a (fun x hx => by have := (List.mem_filter.1 hx).2; simpa using this)
  refine lk_ext At.key g1 (riseA_srt.1 h1) fun k => ?_
  unfold with05P
  rw [g2 k, h2 k, lk_filter At.key hs]
  by_cases hk : a.key = k
  · rw [if_pos hk, if_pos hk]
  · rw [if_neg hk, if_neg hk]
    cases hl : lk At.key l k with
    | none => rfl
    | some x =>
      have := lk_key At.key hl
      have hx : ¬ x.key = a.key := by omega
      simp [Option.filter, hx]
theorem with05_len (l : List At) (a : At) : (with05P l a).length ≤ l.length + 1 := by
  unfold with05P
  rw [insW_len]
  have := List.length_filter_le (fun x => !(x.key == a.key)) l
  omega
def bnd (b : Bool) : Nat := if b = true then 1 else 0
theorem bnd_t : bnd true = 1 := rfl
theorem bnd_f : bnd false = 0 := rfl
theorem bnd_le (b : Bool) : bnd b ≤ 1 := by cases b <;> decide
/-- what is left to do -/
def insRest (inb : Bool) (a : At) (s : List At) : List At := if inb = true then s else insW a s
theorem insRest_t (a : At) (s : List At) : insRest true a s = s := rfl
theorem insRest_f (a : At) (s : List At) : insRest false a s = insW a s := rfl
set_option maxRecDepth 100000 in
set_option maxHeartbeats 1600000 in
theorem with05_any (A : Option Addr) (n c : Nat) (l : List At) (a1 a2 a3 a4 : Int) (a5 : ByteArray) (w : World) (hn : n = l.length) (h : RdAt w w.heap.size A l) (hb : n ≤ 10000000) :
    Calls Tryz.prog 170 #[.slice A n c, .agg #[.int .i64 a1, .int .u8 a2, .int .i64 a3, .int .u64 a4, .string a5]] w (NewAt (with05P l ⟨a1, ⟨a2, a3, a4, a5⟩⟩) w) := by
  have N := Lib.hid hn
  obtain ⟨R, hR⟩ : ∃ X, with05P l ⟨a1, ⟨a2, a3, a4, a5⟩⟩ = X := ⟨_, rfl⟩
  have HR := Lib.hid hR
  rw [hR]
  have y0 := ext_alloc w (.cells #[.int .i64 a1, .int .u8 a2, .int .i64 a3, .int .u64 a4, .string a5] 43)
  have HBX := Lib.hid (heap_alloc_new w (.cells #[.int .i64 a1, .int .u8 a2, .int .i64 a3, .int .u64 a4, .string a5] 43))
  clear hn hR
  go_enter Tryz.func170, Tryz.ntmps170
  go_wp2_with (go_at_call 64; refine Hid.out ?_)
  refine Lib.hid ?_
  refine (without05_any a1 A n c l _ N.out (h.ext y0) (by omega)).mono ?_
  rintro e w1 ⟨A1, c1, rfl, ho, y1⟩
  have hlf : (l.filter (fun x => !(x.key == a1))).length ≤ n := by rw [N.out]; exact List.length_filter_le _ _
  have HR2 : Hid (insW ⟨a1, ⟨a2, a3, a4, a5⟩⟩ (l.filter (fun x => !(x.key == a1))) = R) := Lib.hid HR.out
  generalize l.filter (fun x => !(x.key == a1)) = s at *
  obtain ⟨k, hk⟩ : ∃ k, k = s.length := ⟨_, rfl⟩
  rw [← hk] at ho hlf ⊢
  have K := Lib.hid hk
  have rs := ho.rd At.enc_len
  have HBX := Lib.hid ((y1.block _ (lt_of_some HBX.out)).trans HBX.out)
  have y := ext_trans y0 y1
  clear ho hk HR y0 y1
  go_wp2_with (fail)
  go_loopg [6, 7, 8] k (fun g ov bv iv wr => ∃ (m : Nat) (r : List At) (inb : Bool), m ≤ k ∧ g = k - m ∧ bv = .bool inb ∧ iv = .int .i64 (m : Int) ∧ OwAt wr w1.heap.size ov r ∧ r.length ≤ m + bnd inb ∧ Below w1.heap.size w1 wr ∧ Hid (r ++ insRest inb ⟨a1, ⟨a2, a3, a4, a5⟩⟩ (s.drop m) = R))
  case atStart => exact ⟨0, [], false, by omega, rfl, rfl, rfl, Ow.nil _ _, by simp, Below.refl _ _, Lib.hid (by simpa [insRest] using HR2.out)⟩
  case round =>
    obtain ⟨m, r, inb, hm, hg, rfl, rfl, hown, hrl, yr, HI⟩ := hrel
    have bd := bnd_le inb
    have HG := Lib.hid hg
    clear hg HR2
    have hbx := (yr.block _ (lt_of_some HBX.out)).trans HBX.out
    obtain ⟨b0, b1, b2, b3, b4⟩ := box_at hbx
    have HB2 := Lib.hid hbx
    clear hbx
    by_cases hlt : m < k
    · obtain ⟨ad, x, rfl, hd1, hx1, hc0⟩ := (rs.ext yr).elIn (i := m) (by have := K.out; omega)
      have hst := HI.out
      rw [hd1] at hst
      obtain ⟨x1, x2, x3, x4, x5⟩ := x
      have CX := Lib.hid hc0
      obtain ⟨r0, r1, r2, r3, r4⟩ := at_cells CX.out.2
      have HST := Lib.hid hst
      have hw2 : IntKind.i64.wrap ((m:Int) + 1) = (m : Int) + 1 := IntWalk.i64_in _ (by omega)
      have HX1 := Lib.hid hx1
      clear hst hc0 hd1 hx1 HI
      cases inb with
      | true =>
        have HN : Hid ((r ++ [⟨x1, ⟨x2, x3, x4, x5⟩⟩]) ++ insRest true ⟨a1, ⟨a2, a3, a4, a5⟩⟩ (s.drop (m + 1)) = R) := Lib.hid (by rw [← HST.out]; simp [insRest])
        go_wp2_with (first
          | go_quiet (fail)
          | (at_builtin; refine app_at (m := [⟨x1, ⟨x2, x3, x4, x5⟩⟩]) rfl (.tmp 35) (.tmp 40) rfl rfl (by first | exact (hown.drewN _).alloc _ | exact hown.alloc _) _ _ 1 1 rfl rfl (by exact rd_one _ _ _ rfl) (by simp only [List.length_singleton]; omega) (by exact Nat.le_trans yr.size (le_alloc _ _)) ?_; intro v' w' hown' hgr hv'))
        have s1 := below_app (by first | exact (below_drewN yr _).alloc yr.size _ | exact yr.alloc yr.size _) (by exact Nat.le_trans yr.size (le_alloc _ _)) (by first | exact (hown.drewN _).alloc _ | exact hown.alloc _) (Nat.le_refl _) hgr
        go_roundg (k - (m + 1))
        case measure => have := HG.out; omega
        case rel => exact ⟨m + 1, r ++ [⟨x1, ⟨x2, x3, x4, x5⟩⟩], true, by omega, rfl, rfl, by go_num, hown', by have := bnd_t; simp; omega, s1, HN⟩
      | false =>
        by_cases hk : a1 < x1
        · have HN : Hid ((r ++ [⟨a1, ⟨a2, a3, a4, a5⟩⟩]) ++ [⟨x1, ⟨x2, x3, x4, x5⟩⟩] ++ insRest true ⟨a1, ⟨a2, a3, a4, a5⟩⟩ (s.drop (m + 1)) = R) := Lib.hid (by rw [← HST.out, insRest_f, insRest_t, insW_lt (a := ⟨a1, ⟨a2, a3, a4, a5⟩⟩) (x := ⟨x1, ⟨x2, x3, x4, x5⟩⟩) hk]; simp)
          go_wp2_with (first
            | go_quiet (fail)
            | (at_builtin
               refine app_at (m := [⟨a1, ⟨a2, a3, a4, a5⟩⟩]) rfl (.tmp 31) (.tmp 33) rfl rfl (by first | exact (hown.drewN _).alloc _ | exact hown.alloc _) _ _ 1 1 rfl rfl (by exact rd_one _ _ _ rfl) (by simp only [List.length_singleton]; omega) (by exact Nat.le_trans yr.size (le_alloc _ _)) ?_
               intro v' w' ho1 hgr hv'
               have s1 := below_app (by first | exact (below_drewN yr _).alloc yr.size _ | exact yr.alloc yr.size _) (by exact Nat.le_trans yr.size (le_alloc _ _)) (by first | exact (hown.drewN _).alloc _ | exact hown.alloc _) (Nat.le_refl _) hgr
               obtain ⟨ad', x', hA, -, hx2, hc0⟩ := (rs.ext s1).elIn (i := m) (by have := K.out; omega)
               injection hA with hA
               subst hA
               have hx3 := HX1.out
               rw [hx2] at hx3
               injection hx3 with hx3
               subst hx3
               obtain ⟨g0, g1, g2, g3, g4⟩ := at_cells hc0.2
               clear hx2 hc0 hgr hv')
            | (at_builtin; refine app_at (m := [⟨x1, ⟨x2, x3, x4, x5⟩⟩]) rfl (.tmp 35) (.tmp 40) rfl rfl (by first | exact (ho1.drewN _).alloc _ | exact ho1.alloc _) _ _ 1 1 rfl rfl (by exact rd_one _ _ _ rfl) (by simp only [List.length_singleton, List.length_append]; omega) (by exact Nat.le_trans s1.size (le_alloc _ _)) ?_; intro v' w' hown' hgr hv'))
          have s2 := below_app (by first | exact (below_drewN s1 _).alloc s1.size _ | exact s1.alloc s1.size _) (by exact Nat.le_trans s1.size (le_alloc _ _)) (by first | exact (ho1.drewN _).alloc _ | exact ho1.alloc _) (Nat.le_refl _) hgr
          go_roundg (k - (m + 1))
          case measure => have := HG.out; omega
          case rel => exact ⟨m + 1, r ++ [⟨a1, ⟨a2, a3, a4, a5⟩⟩] ++ [⟨x1, ⟨x2, x3, x4, x5⟩⟩], true, by omega, rfl, rfl, by go_num, hown', by have := bnd_t; have := bnd_f; simp; omega, s2, HN⟩
        · have HN : Hid ((r ++ [⟨x1, ⟨x2, x3, x4, x5⟩⟩]) ++ insRest false ⟨a1, ⟨a2, a3, a4, a5⟩⟩ (s.drop (m + 1)) = R) := Lib.hid (by rw [← HST.out, insRest_f, insRest_f, insW_ge (a := ⟨a1, ⟨a2, a3, a4, a5⟩⟩) (x := ⟨x1, ⟨x2, x3, x4, x5⟩⟩) hk]; simp)
          go_wp2_with (first
            | go_quiet (fail)
            | (at_builtin; refine app_at (m := [⟨x1, ⟨x2, x3, x4, x5⟩⟩]) rfl (.tmp 35) (.tmp 40) rfl rfl (by first | exact (hown.drewN _).alloc _ | exact hown.alloc _) _ _ 1 1 rfl rfl (by exact rd_one _ _ _ rfl) (by simp only [List.length_singleton]; omega) (by exact Nat.le_trans yr.size (le_alloc _ _)) ?_; intro v' w' hown' hgr hv'))
          have s1 := below_app (by first | exact (below_drewN yr _).alloc yr.size _ | exact yr.alloc yr.size _) (by exact Nat.le_trans yr.size (le_alloc _ _)) (by first | exact (hown.drewN _).alloc _ | exact hown.alloc _) (Nat.le_refl _) hgr
          go_roundg (k - (m + 1))
          case measure => have := HG.out; omega
          case rel => exact ⟨m + 1, r ++ [⟨x1, ⟨x2, x3, x4, x5⟩⟩], false, by omega, rfl, rfl, by go_num, hown', by have := bnd_f; simp; omega, s1, HN⟩
    · have HE : Hid (r ++ insRest inb ⟨a1, ⟨a2, a3, a4, a5⟩⟩ [] = R) := Lib.hid (by have h := HI.out; rwa [List.drop_eq_nil_of_le (by have := K.out; omega)] at h)
      cases inb with
      | true =>
        have hR : r = R := by have h := HE.out; simpa [insRest] using h
        subst hR
        obtain ⟨A', c', rfl, _, _⟩ := hown.form
        have HOW := Lib.hid (hown.base_le (B := w.heap.size) y.size)
        clear hown
        go_wp2_with (fail)
        go_ret
        exact ⟨A', c', rfl, HOW.out, ext_trans y yr⟩
      | false =>
        have hR : r ++ [⟨a1, ⟨a2, a3, a4, a5⟩⟩] = R := by have h := HE.out; simpa [insRest, insW] using h
        have HRR := Lib.hid hR
        clear hR
        go_wp2_with (first
          | go_quiet (fail)
          | (at_builtin; refine app_at (m := [⟨a1, ⟨a2, a3, a4, a5⟩⟩]) rfl (.tmp 44) (.tmp 46) rfl rfl (by first | exact (hown.drewN _).alloc _ | exact hown.alloc _) _ _ 1 1 rfl rfl (by exact rd_one _ _ _ rfl) (by simp only [List.length_singleton]; omega) (by exact Nat.le_trans yr.size (le_alloc _ _)) ?_; intro v' w' hown' hgr hv'))
        have s1 := below_app (by first | exact (below_drewN yr _).alloc yr.size _ | exact yr.alloc yr.size _) (by exact Nat.le_trans yr.size (le_alloc _ _)) (by first | exact (hown.drewN _).alloc _ | exact hown.alloc _) (Nat.le_refl _) hgr
        rw [HRR.out] at hown'
        obtain ⟨A', c', rfl, _, _⟩ := hown'.form
        have HOW := Lib.hid (hown'.base_le (B := w.heap.size) y.size)
        clear hown'
        go_ret
        exact ⟨A', c', rfl, HOW.out, ext_trans y s1⟩

end Go.Proofs.YtfnkjcodcoehcaaGreatDoor
namespace Go.Proofs.YtfnkjcodcoehcaaGreatDoor
open Go.RowKit
set_option linter.unusedVariables false
set_option linter.unusedSimpArgs false

/-- a patch with a change, by rising keys -/
def putF (c : Ch) : List Ch → List Ch
  | [] => [c]
  | x :: t => if c.key ≤ x.key then c :: (x :: t).filter (fun d => !(d.key == c.key)) else x :: putF c t
def putRest (inb : Bool) (c : Ch) (s : List Ch) : List Ch := if inb = true then s.filter (fun d => !(d.key == c.key)) else putF c s
theorem putRest_t (c : Ch) (s : List Ch) : putRest true c s = s.filter (fun d => !(d.key == c.key)) := rfl
theorem putRest_f (c : Ch) (s : List Ch) : putRest false c s = putF c s := rfl
theorem putF_le {c x : Ch} {t : List Ch} (h : c.key ≤ x.key) : putF c (x :: t) = c :: (x :: t).filter (fun d => !(d.key == c.key)) := by rw [putF, if_pos h]
theorem putF_gt {c x : Ch} {t : List Ch} (h : ¬ c.key ≤ x.key) : putF c (x :: t) = x :: putF c t := by rw [putF, if_neg h]
theorem putF_len (c : Ch) : ∀ s : List Ch, (putF c s).length ≤ s.length + 1
  | [] => by simp [putF]
  | x :: t => by
    unfold putF
    split
    · simp only [List.length_cons]; have := List.length_filter_le (fun d : Ch => !(d.key == c.key)) (x :: t); simp only [List.length_cons] at this; omega
    · simp only [List.length_cons]; have := putF_len c t; omega
theorem putF_all {s : List Ch} (hs : Srt Ch.key s) (c : Ch) : Srt Ch.key (putF c s) ∧ (∀ k, lk Ch.key (putF c s) k = if c.key = k then some c else lk Ch.key s k) ∧ ∀ m : Int, m < c.key → (∀ x ∈ s, m < x.key) → ∀ x ∈ putF c s, m < x.key := by
  induction s with
  | nil => exact ⟨(srt_cons Ch.key).2 ⟨by simp, Srt.nil Ch.key⟩, fun k => by rw [putF, lk_cons], fun m h _ x hx => by simp [putF] at hx; subst hx; exact h⟩
  | cons x t ih =>
    obtain ⟨h1, h2⟩ := (srt_cons Ch.key).1 hs
    obtain ⟨g1, g2, g3⟩ := ih h2
    by_cases hk : c.key ≤ x.key
    · rw [putF_le hk]
      refine ⟨(srt_cons Ch.key).2 ⟨fun b hb => ?_, hs.filter Ch.key _⟩, fun k => ?_, fun m hm hl y hy => ?_⟩
      · obtain ⟨hb1, hb2⟩ := List.mem_filter.1 hb
        have hne : b.key ≠ c.key := by simpa using hb2
        have : x.key ≤ b.key := by rcases List.mem_cons.1 hb1 with rfl | hb; exact Int.le_refl _; exact Int.le_of_lt (h1 b hb)
        omega
      · rw [lk_cons]
        by_cases h3 : c.key = k
        · rw [if_pos h3, if_pos h3]
        · rw [if_neg h3, if_neg h3, lk_filter Ch.key hs]
          cases hl : lk Ch.key (x :: t) k with
          | none => rfl
          | some b =>
            have := lk_key Ch.key hl
            have hx : ¬ b.key = c.key := by omega
            simp [Option.filter, hx]
      · rcases List.mem_cons.1 hy with rfl | hy
        · exact hm
        · exact hl y (List.mem_filter.1 hy).1
    · rw [putF_gt hk]
      refine ⟨(srt_cons Ch.key).2 ⟨fun b hb => g3 x.key (by omega) h1 b hb, g1⟩, fun k => ?_, fun m hm hl y hy => ?_⟩
      · rw [lk_cons, lk_cons, g2 k]
        by_cases h3 : x.key = k
        · rw [if_pos h3, if_pos h3, if_neg (by omega)]
        · rw [if_neg h3, if_neg h3]
      · rcases List.mem_cons.1 hy with rfl | hy
        · exact hl y (by simp)
        · exact g3 m hm (fun z hz => hl z (List.mem_cons_of_mem _ hz)) y hy
set_option maxRecDepth 100000 in
set_option maxHeartbeats 1600000 in
theorem put06_any (A : Option Addr) (n c : Nat) (l : List Ch) (a1 : Int) (a6 : Bool) (a2 a3 a4 : Int) (a5 : ByteArray) (w : World) (hn : n = l.length) (h : RdCh w w.heap.size A l) (hb : n ≤ 10000000) :
    Calls Tryz.prog 160 #[.slice A n c, .agg #[.int .i64 a1, .bool a6, .int .u8 a2, .int .i64 a3, .int .u64 a4, .string a5]] w (NewCh (putF ⟨a1, a6, ⟨a2, a3, a4, a5⟩⟩ l) w) := by
  have N := Lib.hid hn
  obtain ⟨R, hR⟩ : ∃ X, putF ⟨a1, a6, ⟨a2, a3, a4, a5⟩⟩ l = X := ⟨_, rfl⟩
  have HR2 := Lib.hid hR
  rw [hR]
  have y := ext_alloc w (.cells #[.int .i64 a1, .bool a6, .int .u8 a2, .int .i64 a3, .int .u64 a4, .string a5] 77)
  have HBX := Lib.hid (heap_alloc_new w (.cells #[.int .i64 a1, .bool a6, .int .u8 a2, .int .i64 a3, .int .u64 a4, .string a5] 77))
  have rs := h.ext y
  clear hn hR h
  go_enter Tryz.func160, Tryz.ntmps160
  go_wp2_with (fail)
  generalize hw1 : w.alloc (.cells #[.int .i64 a1, .bool a6, .int .u8 a2, .int .i64 a3, .int .u64 a4, .string a5] 77) = w1 at *
  go_loopg [5, 6, 7] n (fun g ov bv iv wr => ∃ (m : Nat) (r : List Ch) (inb : Bool), m ≤ n ∧ g = n - m ∧ bv = .bool inb ∧ iv = .int .i64 (m : Int) ∧ OwCh wr w1.heap.size ov r ∧ r.length ≤ m + bnd inb ∧ Below w1.heap.size w1 wr ∧ Hid (r ++ putRest inb ⟨a1, a6, ⟨a2, a3, a4, a5⟩⟩ (l.drop m) = R))
  case atStart => exact ⟨0, [], false, by omega, rfl, rfl, rfl, Ow.nil _ _, by simp, by first | exact Below.refl _ _ | (rw [hw1]; exact Below.refl _ _), Lib.hid (by simpa [putRest] using HR2.out)⟩
  case round =>
    obtain ⟨m, r, inb, hm, hg, rfl, rfl, hown, hrl, yr, HI⟩ := hrel
    have bd := bnd_le inb
    have HG := Lib.hid hg
    clear hg HR2
    have hbx := (yr.block _ (lt_of_some HBX.out)).trans HBX.out
    obtain ⟨b0, b1, b2, b3, b4, b5⟩ := box_ch hbx
    have HB2 := Lib.hid hbx
    clear hbx
    by_cases hlt : m < n
    · obtain ⟨ad, x, rfl, hd1, hx1, hc0⟩ := (rs.ext yr).elIn (i := m) (by have := N.out; omega)
      have hst := HI.out
      rw [hd1] at hst
      obtain ⟨x1, x6, x2, x3, x4, x5⟩ := x
      have CX := Lib.hid hc0
      obtain ⟨r0, r1, r2, r3, r4, r5⟩ := ch_cells CX.out.2
      have HST := Lib.hid hst
      have HX1 := Lib.hid hx1
      have hw2 : IntKind.i64.wrap ((m:Int) + 1) = (m : Int) + 1 := IntWalk.i64_in _ (by omega)
      clear hst hc0 hd1 hx1 HI
      by_cases hk : x1 = a1
      · have hk2 : (x1 == a1) = true := beq_iff_eq.2 hk
        have hk3 : (x1 != a1) = false := by rw [bne, hk2]; rfl
        cases inb with
        | true =>
          have HN : Hid (r ++ putRest true ⟨a1, a6, ⟨a2, a3, a4, a5⟩⟩ (l.drop (m + 1)) = R) := Lib.hid (by rw [← HST.out, putRest_t, putRest_t, List.filter_cons, if_neg (by simp [hk])])
          clear hk
          go_wp2_with (go_quiet (fail))
          go_roundg (n - (m + 1))
          case measure => have := HG.out; omega
          case rel => exact ⟨m + 1, r, true, by omega, rfl, rfl, by go_num, by first | exact hown | exact hown.drewN _, by have := bnd_t; omega, by first | exact yr | exact below_drewN yr _, HN⟩
        | false =>
          have HN : Hid ((r ++ [⟨a1, a6, ⟨a2, a3, a4, a5⟩⟩]) ++ putRest true ⟨a1, a6, ⟨a2, a3, a4, a5⟩⟩ (l.drop (m + 1)) = R) := Lib.hid (by rw [← HST.out, putRest_f, putRest_t, putF_le (by show a1 ≤ x1; omega), List.filter_cons, if_neg (by simp [hk])]; simp)
          have hle : a1 ≤ x1 := by omega
          clear hk
          go_wp2_with (first
            | go_quiet (fail)
            | (at_builtin
               refine app_ch (m := [⟨a1, a6, ⟨a2, a3, a4, a5⟩⟩]) rfl (.tmp 26) (.tmp 28) rfl rfl (by first | exact (hown.drewN _).alloc _ | exact hown.alloc _) _ _ 1 1 rfl rfl (by exact rd_one _ _ _ rfl) (by simp only [List.length_singleton]; omega) (by exact Nat.le_trans yr.size (le_alloc _ _)) ?_
               intro v' w' ho1 hgr hv'
               have s1 := below_app (by first | exact (below_drewN yr _).alloc yr.size _ | exact yr.alloc yr.size _) (by exact Nat.le_trans yr.size (le_alloc _ _)) (by first | exact (hown.drewN _).alloc _ | exact hown.alloc _) (Nat.le_refl _) hgr
               have hbx2 := (s1.block _ (lt_of_some HBX.out)).trans HBX.out
               obtain ⟨q0, q1, q2, q3, q4, q5⟩ := box_ch hbx2
               obtain ⟨ad', x', hA, -, hx2, hc0⟩ := (rs.ext s1).elIn (i := m) (by have := N.out; omega)
               injection hA with hA
               subst hA
               have hx3 := HX1.out
               rw [hx2] at hx3
               injection hx3 with hx3
               subst hx3
               obtain ⟨g0, g1, g2, g3, g4, g5⟩ := ch_cells hc0.2
               have S1 := Lib.hid s1
               have HO1 := Lib.hid ho1
               clear hx2 hc0 hgr hv' hbx2 ho1))
          go_roundg (n - (m + 1))
          case measure => have := HG.out; omega
          case rel => exact ⟨m + 1, r ++ [⟨a1, a6, ⟨a2, a3, a4, a5⟩⟩], true, by omega, rfl, rfl, by go_num, by first | exact HO1.out | exact HO1.out.drewN _, by have := bnd_t; have := bnd_f; simp; omega, by first | exact S1.out | exact below_drewN S1.out _, HN⟩
      · have hk2 : (x1 == a1) = false := beq_eq_false_iff_ne.2 hk
        have hk3 : (x1 != a1) = true := by rw [bne, hk2]; rfl
        cases inb with
        | true =>
          have HN : Hid ((r ++ [⟨x1, x6, ⟨x2, x3, x4, x5⟩⟩]) ++ putRest true ⟨a1, a6, ⟨a2, a3, a4, a5⟩⟩ (l.drop (m + 1)) = R) := Lib.hid (by rw [← HST.out, putRest_t, putRest_t, List.filter_cons, if_pos (by simp [hk2])]; simp)
          clear hk
          go_wp2_with (first
            | go_quiet (fail)
            | (at_builtin; refine app_ch (m := [⟨x1, x6, ⟨x2, x3, x4, x5⟩⟩]) rfl (.tmp 38) (.tmp 43) rfl rfl (by first | exact (hown.drewN _).alloc _ | exact hown.alloc _) _ _ 1 1 rfl rfl (by exact rd_one _ _ _ rfl) (by simp only [List.length_singleton, List.length_append]; omega) (by exact Nat.le_trans yr.size (le_alloc _ _)) ?_; intro v' w' hown' hgr hv'))
          have s1 := below_app (by first | exact (below_drewN yr _).alloc yr.size _ | exact yr.alloc yr.size _) (by exact Nat.le_trans yr.size (le_alloc _ _)) (by first | exact (hown.drewN _).alloc _ | exact hown.alloc _) (Nat.le_refl _) hgr
          go_roundg (n - (m + 1))
          case measure => have := HG.out; omega
          case rel => exact ⟨m + 1, r ++ [⟨x1, x6, ⟨x2, x3, x4, x5⟩⟩], true, by omega, rfl, rfl, by go_num, hown', by have := bnd_t; simp; omega, s1, HN⟩
        | false =>
          by_cases hle : a1 ≤ x1
          · have HN : Hid ((r ++ [⟨a1, a6, ⟨a2, a3, a4, a5⟩⟩]) ++ [⟨x1, x6, ⟨x2, x3, x4, x5⟩⟩] ++ putRest true ⟨a1, a6, ⟨a2, a3, a4, a5⟩⟩ (l.drop (m + 1)) = R) := Lib.hid (by rw [← HST.out, putRest_f, putRest_t, putF_le (x := ⟨x1, x6, ⟨x2, x3, x4, x5⟩⟩) hle, List.filter_cons, if_pos (by simp [hk2])]; simp)
            clear hk
            go_wp2_with (first
              | go_quiet (fail)
              | (at_builtin
                 refine app_ch (m := [⟨a1, a6, ⟨a2, a3, a4, a5⟩⟩]) rfl (.tmp 26) (.tmp 28) rfl rfl (by first | exact (hown.drewN _).alloc _ | exact hown.alloc _) _ _ 1 1 rfl rfl (by exact rd_one _ _ _ rfl) (by simp only [List.length_singleton]; omega) (by exact Nat.le_trans yr.size (le_alloc _ _)) ?_
                 intro v' w' ho1 hgr hv'
                 have s1 := below_app (by first | exact (below_drewN yr _).alloc yr.size _ | exact yr.alloc yr.size _) (by exact Nat.le_trans yr.size (le_alloc _ _)) (by first | exact (hown.drewN _).alloc _ | exact hown.alloc _) (Nat.le_refl _) hgr
                 have hbx2 := (s1.block _ (lt_of_some HBX.out)).trans HBX.out
                 obtain ⟨q0, q1, q2, q3, q4, q5⟩ := box_ch hbx2
                 obtain ⟨ad', x', hA, -, hx2, hc0⟩ := (rs.ext s1).elIn (i := m) (by have := N.out; omega)
                 injection hA with hA
                 subst hA
                 have hx3 := HX1.out
                 rw [hx2] at hx3
                 injection hx3 with hx3
                 subst hx3
                 obtain ⟨g0, g1, g2, g3, g4, g5⟩ := ch_cells hc0.2
                 clear hx2 hc0 hgr hv' hbx2)
              | (at_builtin; refine app_ch (m := [⟨x1, x6, ⟨x2, x3, x4, x5⟩⟩]) rfl (.tmp 38) (.tmp 43) rfl rfl (by first | exact (ho1.drewN _).alloc _ | exact ho1.alloc _) _ _ 1 1 rfl rfl (by exact rd_one _ _ _ rfl) (by simp only [List.length_singleton, List.length_append]; omega) (by exact Nat.le_trans s1.size (le_alloc _ _)) ?_; intro v' w' hown' hgr hv'))
            have s2 := below_app (by first | exact (below_drewN s1 _).alloc s1.size _ | exact s1.alloc s1.size _) (by exact Nat.le_trans s1.size (le_alloc _ _)) (by first | exact (ho1.drewN _).alloc _ | exact ho1.alloc _) (Nat.le_refl _) hgr
            go_roundg (n - (m + 1))
            case measure => have := HG.out; omega
            case rel => exact ⟨m + 1, r ++ [⟨a1, a6, ⟨a2, a3, a4, a5⟩⟩] ++ [⟨x1, x6, ⟨x2, x3, x4, x5⟩⟩], true, by omega, rfl, rfl, by go_num, hown', by have := bnd_t; have := bnd_f; simp; omega, s2, HN⟩
          · have HN : Hid ((r ++ [⟨x1, x6, ⟨x2, x3, x4, x5⟩⟩]) ++ putRest false ⟨a1, a6, ⟨a2, a3, a4, a5⟩⟩ (l.drop (m + 1)) = R) := Lib.hid (by rw [← HST.out, putRest_f, putRest_f, putF_gt (x := ⟨x1, x6, ⟨x2, x3, x4, x5⟩⟩) hle]; simp)
            clear hk
            go_wp2_with (first
              | go_quiet (fail)
              | (at_builtin; refine app_ch (m := [⟨x1, x6, ⟨x2, x3, x4, x5⟩⟩]) rfl (.tmp 38) (.tmp 43) rfl rfl (by first | exact (hown.drewN _).alloc _ | exact hown.alloc _) _ _ 1 1 rfl rfl (by exact rd_one _ _ _ rfl) (by simp only [List.length_singleton, List.length_append]; omega) (by exact Nat.le_trans yr.size (le_alloc _ _)) ?_; intro v' w' hown' hgr hv'))
            have s1 := below_app (by first | exact (below_drewN yr _).alloc yr.size _ | exact yr.alloc yr.size _) (by exact Nat.le_trans yr.size (le_alloc _ _)) (by first | exact (hown.drewN _).alloc _ | exact hown.alloc _) (Nat.le_refl _) hgr
            go_roundg (n - (m + 1))
            case measure => have := HG.out; omega
            case rel => exact ⟨m + 1, r ++ [⟨x1, x6, ⟨x2, x3, x4, x5⟩⟩], false, by omega, rfl, rfl, by go_num, hown', by have := bnd_f; simp; omega, s1, HN⟩
    · have HE : Hid (r ++ putRest inb ⟨a1, a6, ⟨a2, a3, a4, a5⟩⟩ [] = R) := Lib.hid (by have h := HI.out; rwa [List.drop_eq_nil_of_le (by have := N.out; omega)] at h)
      cases inb with
      | true =>
        have hR : r = R := by have h := HE.out; simpa [putRest] using h
        subst hR
        obtain ⟨A', c', rfl, _, _⟩ := hown.form
        have HOW := Lib.hid (hown.base_le (B := w.heap.size) y.size)
        clear hown
        go_wp2_with (fail)
        go_ret
        exact ⟨A', c', rfl, HOW.out, ext_trans y yr⟩
      | false =>
        have hR : r ++ [⟨a1, a6, ⟨a2, a3, a4, a5⟩⟩] = R := by have h := HE.out; simpa [putRest, putF] using h
        have HRR := Lib.hid hR
        clear hR
        go_wp2_with ((at_builtin; refine app_ch (m := [⟨a1, a6, ⟨a2, a3, a4, a5⟩⟩]) rfl (.tmp 47) (.tmp 49) rfl rfl (by first | exact (hown.drewN _).alloc _ | exact hown.alloc _) _ _ 1 1 rfl rfl (by exact rd_one _ _ _ rfl) (by simp only [List.length_singleton, List.length_append]; omega) (by exact Nat.le_trans yr.size (le_alloc _ _)) ?_; intro v' w' hown' hgr hv'))
        have s1 := below_app (by first | exact (below_drewN yr _).alloc yr.size _ | exact yr.alloc yr.size _) (by exact Nat.le_trans yr.size (le_alloc _ _)) (by first | exact (hown.drewN _).alloc _ | exact hown.alloc _) (Nat.le_refl _) hgr
        rw [HRR.out] at hown'
        obtain ⟨A', c', rfl, _, _⟩ := hown'.form
        have HOW := Lib.hid (hown'.base_le (B := w.heap.size) y.size)
        clear hown'
        go_ret
        exact ⟨A', c', rfl, HOW.out, ext_trans y s1⟩

end Go.Proofs.YtfnkjcodcoehcaaGreatDoor
