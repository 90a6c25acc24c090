/- Slices of ints as lists; the walk of (*schema.Schema).Group. -/
import Derived.Test.YtfnkjcodcoehcaaSchema1
import Derived.Deep.LoopGhost
import Derived.Deep.DeepMust
namespace Go.Proofs.Ytfnkjcodcoehcaa
open Go.RowKit
set_option linter.unusedVariables false
set_option linter.unusedSimpArgs false

def encInt (a : Int) : List Value := [.int .i64 a]
theorem encInt_len (a : Int) : (encInt a).length = 1 := rfl
theorem encInt_one (a : Int) : ∀ u ∈ encInt a, u.oneCell' = true := by intro u hu; simp [encInt] at hu; rw [hu]; rfl
theorem Try.infoInt : (Try.prog.info? 3).map (fun i => (i.zero, i.size, i.bytes)) = some (some (.int .i64 0), 1, 8) := by kernel_rfl
theorem Try.slInt : Try.prog.underlying 66 = some (.slice 3) := by kernel_rfl
abbrev OwInt := @Ow Int encInt 1 3
abbrev RdInt := @Rd Int encInt 1
section
variable {ops : Array Oper} {rest : List Oper} {o : Oper} {a : Act} {Q : Exit → Act → World → Prop} {w : World} {base : Nat} {v : Value}
theorem app_int {l m : List Int} (hgd : o.guard = none) (s x : Operand)
    (ho : o.op = .call { callee := .builtin .append, args := #[s, x], argTypes := #[66, 66] })
    (hsv : a.eval s = v) (hown : OwInt w base v l) (B : Nat) (A : Option Addr) (c n : Nat) (hx : a.eval x = .slice A n c) (hn : n = m.length) (hr : RdInt w B A m)
    (hb : l.length + m.length ≤ 2000000000000) (hbase : base ≤ w.heap.size)
    (h : ∀ v' w', OwInt w' base v' (l ++ m) → w.grownBy w' (wb v) → (v' = v ∧ w' = w ∨ wb v' = wb v ∨ wb v' = some w.heap.size) → wpList Try.prog ops Q rest (a.put o.dst v') w') : wpList Try.prog ops Q (o :: rest) a w := by
  obtain ⟨i0, hi0, hz0, hz1, hz2⟩ := info_parts Try.infoInt
  exact wpList_app hgd s x _ ho i0 _ 8 Try.slInt hi0 hz0 hz1 hz2 rfl (by omega) encInt_len encInt_one hsv hown B A c n hx hn hr (by simp only [maxLen]; omega) (by omega) hbase h
end

/-- the others of a key's group, by a row of keys -/
def othersL (ls : List Ky) (g id : Int) : List Int := (ls.filter (fun o => decide (o.group = g) && !decide (o.id = id))).map (·.id)
def groupL (l : List Ky) (id : Int) : List Int :=
  match findK l id with
  | none => []
  | some k => if k.group = 0 then [] else othersL l k.group id
theorem others_perm {a b : List Ky} (h : a.Perm b) (g id : Int) : (othersL a g id).Perm (othersL b g id) := (h.filter _).map _
theorem others_drop {ls : List Ky} {m : Nat} {x : Ky} {g id : Int} {r R : List Int} (hd : ls.drop m = x :: ls.drop (m + 1)) (h : r ++ othersL (ls.drop m) g id = R) :
    (x.group = g ∧ ¬ x.id = id ∧ (r ++ [x.id]) ++ othersL (ls.drop (m + 1)) g id = R) ∨ ((¬ x.group = g ∨ x.id = id) ∧ r ++ othersL (ls.drop (m + 1)) g id = R) := by
  rw [hd] at h
  unfold othersL at h ⊢
  rw [List.filter_cons] at h
  by_cases h1 : x.group = g
  · by_cases h2 : x.id = id
    · rw [if_neg (by simp [h2])] at h; exact .inr ⟨.inr h2, h⟩
    · rw [if_pos (by simp [h1, h2])] at h
      exact .inl ⟨h1, h2, by rw [← h]; simp⟩
  · rw [if_neg (by simp [h1])] at h; exact .inr ⟨.inl h1, h⟩
/-- what Group answers -/
def GroupOut (l : List Ky) (id : Int) (w : World) (e : Ending) (w' : World) : Prop :=
  ∃ (g : List Int) (A : Option Addr) (c : Nat), e = .returned (.slice A g.length c) ∧ g.Perm (groupL l id) ∧ g.length ≤ l.length ∧ OwInt w' w.heap.size (.slice A g.length c) g ∧ Below w.heap.size w w'

set_option maxRecDepth 100000 in
set_option maxHeartbeats 1600000 in
theorem groupS_any (s : Nat) (l : List Ky) (id : Int) (w : World) (h : Sch w s l) (hl : l.length ≤ 1000000) :
    Calls Try.prog 26 #[.pointer (some ⟨s, 0, none⟩), .int .i64 id] w (GroupOut l id w) := by
  obtain ⟨bm, A, n, c, ls, hb, hm, hn, hp, hs, hr⟩ := (show Sch w s l from h)
  have N := Lib.hid hn
  have PM := Lib.hid hp
  have hlen := hp.length_eq
  have HH := Lib.hid h
  have hn2 : n ≤ 1000000 := by omega
  have HB0 := Lib.hid hb
  have HLE := Lib.hid hlen
  clear hn hp hm h hb hlen
  go_enter Try.func26, Try.ntmps26
  go_wp2_with (go_at_call 35; refine Hid.out ?_)
  refine Lib.hid ?_
  refine (findS_any s l id w HH.out).mono ?_
  rintro e w1 ⟨i, k1, kd, k2, k3, q, ok, rfl, hk, hbk, y1⟩
  have y2 := ext_alloc w1 (.cells #[.int .i64 i, .bool k1, .int .u8 kd, .bool k2, .bool k3, .int .i64 q] 53)
  have hbx := heap_alloc_new w1 (.cells #[.int .i64 i, .bool k1, .int .u8 kd, .bool k2, .bool k3, .int .i64 q] 53)
  have y := ext_trans y1 y2
  have HK := Lib.hid hk
  have HB := Lib.hid hbk
  have HBX := Lib.hid hbx
  clear hk hbk hbx
  cases ok with
  | false =>
    have HG : Hid (groupL l id = []) := Lib.hid (by
      have h1 := HB.out
      unfold groupL
      cases hq : findK l id with
      | none => rfl
      | some k => rw [hq] at h1; cases h1)
    go_wp2_with (fail)
    go_ret
    exact ⟨[], none, 0, rfl, by rw [HG.out], by simp, Ow.nil _ _, y⟩
  | true =>
    have HG : Hid (groupL l id = if q = 0 then [] else othersL l q id) := Lib.hid (by
      have h1 := HB.out
      have h2 := HK.out
      unfold groupL
      cases hq : findK l id with
      | none => rw [hq] at h1; cases h1
      | some k => rw [hq] at h2; simp only [Option.getD_some] at h2; subst h2; rfl)
    obtain ⟨b0, b1, b2, b3, b4, b5⟩ := box_ky HBX.out
    by_cases hq : q = 0
    · subst hq
      go_wp2_with (fail)
      go_ret
      exact ⟨[], none, 0, rfl, by rw [HG.out]; simp, by simp, Ow.nil _ _, y⟩
    have hq0 : (q == 0) = false := beq_eq_false_iff_ne.2 hq
    have HGL : Hid (groupL l id = othersL l q id) := Lib.hid (by rw [HG.out, if_neg hq])
    obtain ⟨R, hR⟩ : ∃ X, othersL ls q id = X := ⟨_, rfl⟩
    have RR := Lib.hid hR
    have hbs := (y.block s (lt_of_some HB0.out)).trans HB0.out
    obtain ⟨s0, s1⟩ := box_2 hbs
    have hr1 := hr.ext y
    clear hq hR hbs
    go_wp2_with (fail)
    obtain ⟨w2, hw2⟩ : ∃ w2, w1.alloc (.cells #[.int .i64 i, .bool k1, .int .u8 kd, .bool k2, .bool k3, .int .i64 q] 53) = w2 := ⟨_, rfl⟩
    have hbx2 : w2.heap[w1.heap.size]? = some (.cells #[.int .i64 i, .bool k1, .int .u8 kd, .bool k2, .bool k3, .int .i64 q] 53 (0, 0)) := by rw [← hw2]; exact HBX.out
    have hsz2 : w2.heap.size = w1.heap.size + 1 := by rw [← hw2]; simp
    rw [hw2] at y hr1 s0 s1
    have HBX2 := Lib.hid hbx2
    have HSZ2 := Lib.hid hsz2
    clear hbx2 hsz2 b0 b1 b2 b3 b4 b5 y2 HBX
    go_loopg [7, 28] n (fun g ov iv wr => ∃ (m : Nat) (r : List Int), m ≤ n ∧ g = n - m ∧ iv = .int .i64 (m : Int) ∧ OwInt wr w2.heap.size ov r ∧ r.length ≤ m ∧ Below w2.heap.size w2 wr ∧ Hid (r ++ othersL (ls.drop m) q id = R))
    case atStart => exact ⟨0, [], by omega, rfl, rfl, Ow.nil _ _, by simp, by rw [hw2]; exact Below.refl _ _, Lib.hid (by simpa using RR.out)⟩
    case round =>
      obtain ⟨m, r, hm, hg, rfl, hown, hrl, yr, HI⟩ := hrel
      have HGG := Lib.hid hg
      clear hg
      have hbx3 := (yr.block _ (lt_of_some HBX2.out)).trans HBX2.out
      obtain ⟨b0, b1, b2, b3, b4, b5⟩ := box_ky hbx3
      by_cases hlt : m < n
      · obtain ⟨ad, x, rfl, had, hd1, _, hc0⟩ := (hr1.below yr (Nat.le_refl _)).el (i := m) (by have := N.out; omega)
        have hst := others_drop hd1 HI.out
        obtain ⟨x1, x2, x3, x4, x5, x6⟩ := x
        obtain ⟨r0, r1, r2, r3, r4, r5⟩ := ky_cells hc0
        simp only at hst
        clear hc0 hd1 HI
        have y3 := ext_alloc wr (.cells #[.int .i64 x1, .bool x2, .int .u8 x3, .bool x4, .bool x5, .int .i64 x6] 53)
        have hbx4 := heap_alloc_new wr (.cells #[.int .i64 x1, .bool x2, .int .u8 x3, .bool x4, .bool x5, .int .i64 x6] 53)
        have hbx5 := (y3.block _ (lt_of_some hbx3)).trans hbx3
        obtain ⟨d0, d1, d2, d3, d4, d5⟩ := box_ky hbx5
        obtain ⟨f0, f1, f2, f3, f4, f5⟩ := box_ky hbx4
        clear hbx3 hbx4 hbx5
        have yw := ext_trans yr y3
        have hw3 : IntKind.i64.wrap ((m:Int) + 1) = (m : Int) + 1 := IntWalk.i64_in _ (by omega)
        have HOW := Lib.hid (hown.below y3 (Nat.le_refl _))
        clear hown
        rcases hst with ⟨h1, h2, h3⟩ | ⟨h1, h3⟩
        · subst h1
          have hne : (x1 == id) = false := beq_eq_false_iff_ne.2 h2
          have H3 := Lib.hid h3
          clear h2 h3
          go_wp2_with (at_builtin; refine app_int (m := [x1]) rfl (.tmp 43) (.tmp 46) rfl rfl (by exact HOW.out.alloc _) _ _ 1 1 rfl rfl (by exact rd_one_at (enc := encInt) (size := 1) (wr.alloc _) _ x1 rfl (by simp)) (by simp only [List.length_singleton]; omega) (by have := yw.size; simp at this ⊢; omega) ?_; intro v' w' hown' hgr hv')
          have s1 := below_app (yw.alloc yw.size _) (by have := yw.size; simp at this ⊢; omega) (HOW.out.alloc _) (Nat.le_refl _) hgr
          go_roundg (n - (m + 1))
          case measure => have := HGG.out; omega
          case rel => exact ⟨m + 1, r ++ [x1], by omega, rfl, by go_num, hown', by simp; omega, s1, H3⟩
        · have H3 := Lib.hid h3
          clear h3
          by_cases h2 : x6 = q
          · have h4 : x1 = id := by rcases h1 with h | h; exact absurd h2 h; exact h
            subst h2 h4
            clear h1
            go_wp2_with (fail)
            go_roundg (n - (m + 1))
            case measure => have := HGG.out; omega
            case rel => exact ⟨m + 1, r, by omega, rfl, by go_num, HOW.out, by omega, yw, H3⟩
          · have hne : (x6 == q) = false := beq_eq_false_iff_ne.2 h2
            clear h1 h2
            go_wp2_with (fail)
            go_roundg (n - (m + 1))
            case measure => have := HGG.out; omega
            case rel => exact ⟨m + 1, r, by omega, rfl, by go_num, HOW.out, by omega, yw, H3⟩
      · have hmn : m = n := by omega
        have hR : r = R := by
          have h := HI.out
          rw [List.drop_eq_nil_of_le (by have := N.out; omega)] at h
          simpa [othersL] using h
        obtain ⟨A', c', rfl, _, _⟩ := hown.form
        have HOW := Lib.hid (hown.base_le y.size)
        clear hown
        go_wp2_with (fail)
        go_ret
        refine ⟨r, A', c', rfl, ?_, by have := HLE.out; have := N.out; omega, HOW.out, ext_trans y yr⟩
        rw [hR, HGL.out, ← RR.out]
        exact others_perm PM.out _ _
end Go.Proofs.Ytfnkjcodcoehcaa
