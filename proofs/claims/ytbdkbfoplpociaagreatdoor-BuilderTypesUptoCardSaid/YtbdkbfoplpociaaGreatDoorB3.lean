/- Merged texts: DeltaLaw, FragLaw, Made, SameCl, FragW, DocKit, FragLaw2, Group, OnceLaw. -/
import Derived.Test.YtbdkbfoplpociaaGreatDoorK29
import Derived.Test.YtbdkbfoplpociaaGreatDoorK25
import Derived.Test.YtbdkbfoplpociaaGreatDoorK24
import Derived.Test.YtbdkbfoplpociaaGreatDoorK28
import Derived.Test.YtbdkbfoplpociaaGreatDoorK22
import Derived.Test.YtbdkbfoplpociaaGreatDoorK19
import Derived.Test.YtbdkbfoplpociaaGreatDoorK16
import Derived.Test.YtbdkbfoplpociaaGreatDoorK20
import Derived.Test.YtbdkbfoplpociaaGreatDoorK30
import Derived.Test.YtbdkbfoplpociaaGreatDoorB2
import Derived.Test.YtbdkbfoplpociaaGreatDoorK26
import Derived.Deep.LoopGhost
import Derived.Deep.DeepMust
import Derived.Test.YtbdkbfoplpociaaGreatDoorK8
namespace Go.Proofs.YtbdkbfoplpociaaGreatDoor
set_option linter.unusedVariables false
set_option linter.unusedSimpArgs false

theorem MkAt.tell {m : Mk} {K I : List Un} {g : Nat} (h : MkAt m K I g) (d : List Cl) : MkAt (tellM m d) K (I ++ d.map insU) g := by
  induction d generalizing m I with
  | nil => simpa [tellM] using h
  | cons c d ih =>
    have := ih (h.insert [c.r] c.s)
    rw [List.append_assoc] at this
    exact this
end Go.Proofs.YtbdkbfoplpociaaGreatDoor
namespace Go.Proofs.YtbdkbfoplpociaaGreatDoor
set_option linter.unusedVariables false
set_option linter.unusedSimpArgs false

/-- a fragment's maker -/
def pasteM (p : Int) (f : List Cl) : Mk := tellM (mkRetain Mk.new p []) f
theorem Told.tell {m : Mk} {us : List Un} (h : Told m us) : ∀ d : List Cl, Told (tellM m d) (us ++ d.map insU) := by
  intro d
  induction d generalizing m us with
  | nil => simpa [tellM] using h
  | cons c d ih =>
    have h1 := ih (h.insert [c.r] c.s)
    rw [List.append_assoc] at h1
    exact h1
theorem paste_told (p : Nat) (f : List Cl) (hp : p ≤ 1000000000000) : Told (pasteM p f) (pasteU p f) := by
  have h := (Told.new.retain (p : Int) [] (by simp; omega)).tell f
  rw [List.nil_append] at h
  exact h
theorem app_insU (l : List Ky) (f d : List Cl) : app l (f.map insU) d = f ++ d := by
  induction f with
  | nil => rfl
  | cons c f ih => show _ :: app l (f.map insU) d = _; rw [ih]; rfl
theorem app_paste (l : List Ky) (p : Nat) (f d : List Cl) (hp : p ≤ d.length) : app l (pasteU p f) d = d.take p ++ (f ++ d.drop p) := by
  unfold pasteU
  rw [app_ret0 l p _ d hp, app_insU]
theorem takes_insU (f : List Cl) : takesU (f.map insU) = 0 := by
  induction f with
  | nil => rfl
  | cons c f ih => exact ih
theorem makes_insU (f : List Cl) : makesU (f.map insU) = f.length := by
  induction f with
  | nil => rfl
  | cons c f ih => show makesU (f.map insU) + 1 = _; rw [ih]; rfl
theorem pasteU_takes (p : Nat) (f : List Cl) : takesU (pasteU p f) = p := by unfold pasteU; rw [takes_ret, takes_insU, Nat.add_zero]
theorem pasteU_makes (p : Nat) (f : List Cl) : makesU (pasteU p f) = p + f.length := by unfold pasteU; rw [makes_ret, makes_insU]
theorem fin_insU {n a : Nat} (h : a ≠ n) (f : List Cl) : finU n a (f.map insU) = true := (fin_ins (fun u hu => by
  obtain ⟨c, _, rfl⟩ := List.mem_map.1 hu
  exact ⟨c.r, c.s, rfl⟩) (fun _ => h)).1
theorem paste_fit {l : List Ky} {p n most : Nat} {f : List Cl} (hp : p < n) (hm : n + f.length ≤ most) (hb : most ≤ 536870912) (hf : ∀ c ∈ f, okCl l c) : FitU l (pasteU p f) n most := by
  refine ⟨fun u hu => ?_, by rw [pasteU_takes]; omega, by omega, by omega, ?_, by rw [pasteU_takes, pasteU_makes]; omega, by rw [pasteU_takes]; omega, by rw [pasteU_makes]; omega⟩
  · unfold pasteU at hu
    rcases List.mem_append.1 hu with hu | hu
    · rw [(List.mem_replicate.1 hu).2]; exact mayP_nil l
    · obtain ⟨c, hc, rfl⟩ := List.mem_map.1 hu
      exact hf c hc
  · unfold pasteU
    rw [finU_append, finU_reps, takesU_ret, Bool.true_and]
    exact fin_insU (by omega) f
end Go.Proofs.YtbdkbfoplpociaaGreatDoor
namespace Go.Proofs.YtbdkbfoplpociaaGreatDoor
open Go.RowKit
set_option linter.unusedVariables false
set_option linter.unusedSimpArgs false

theorem MkB.tell {S : Nat} : ∀ (f : List Cl) {m : Mk} {K : Nat}, MkB m K S → (∀ c ∈ f, c.s.length ≤ S) → MkB (tellM m f) (K + f.length) S
  | [], m, K, h, _ => h
  | c :: f, m, K, h, hs => by
    have h1 := h.insert [c.r] (hs c (by simp))
    have h2 := MkB.tell f h1 (fun x hx => hs x (List.mem_cons_of_mem _ hx))
    have e : tellM m (c :: f) = tellM (mkInsert m [c.r] c.s) f := rfl
    rw [e]
    exact h2.mono (by simp; omega) (Nat.le_refl _)
end Go.Proofs.YtbdkbfoplpociaaGreatDoor
namespace Go.Proofs.YtbdkbfoplpociaaGreatDoor
open Go.RowKit
set_option linter.unusedVariables false
set_option linter.unusedSimpArgs false

set_option maxRecDepth 100000 in
set_option maxHeartbeats 800000 in
theorem cellsText_any (A : Option Addr) (n c : Nat) (l : List ClS) (w : World) (hn : n = l.length) (h : RdCs w w.heap.size A l) (hb : n ≤ 100000000) :
    Calls Tryz.prog 79 #[.slice A n c] w (NewI32 (l.map (·.c.r)) w) := by
  have N := Lib.hid hn
  have H := Lib.hid h
  clear hn h
  go_enter Tryz.func79, Tryz.ntmps79
  go_wp2_with (fail)
  go_loopg [3, 8] n (fun g v iv wr => ∃ i : Nat, i ≤ n ∧ g = n - i ∧ iv = .int .i64 (i : Int) ∧ OwI32 wr w.heap.size v ((l.take i).map (·.c.r)) ∧ Below w.heap.size w wr)
  case atStart => exact ⟨0, by omega, rfl, rfl, Ow.nil _ _, Below.refl _ _⟩
  case round =>
    obtain ⟨i, hi, hg, rfl, ho, y⟩ := hrel
    have HG := Lib.hid hg
    clear hg
    by_cases hlt : i < n
    · have hl1 : i < l.length := by have := N.out; omega
      obtain ⟨ad, x, rfl, _, _, hx1, hc1⟩ := (H.out.ext y).el hl1
      have E := Lib.hid (show (l.take (i + 1)).map (·.c.r) = (l.take i).map (·.c.r) ++ [x.c.r] by rw [List.take_add_one, hx1]; simp)
      have hlen := Lib.hid (show ((l.take i).map (·.c.r)).length ≤ 100000000 by rw [List.length_map, List.length_take]; omega)
      obtain ⟨⟨r, s⟩, As, cs⟩ := x
      obtain ⟨z0, z1⟩ := cl_cells hc1
      clear hx1 hc1 hl1
      have ya := ext_alloc wr (.cells #[.int .i32 r, .slice As s.length cs] 63)
      have HO := Lib.hid (ho.alloc (.cells #[.int .i32 r, .slice As s.length cs] 63))
      have y3 := ext_trans y ya
      have hw2 : IntKind.i64.wrap ((i:Int) + 1) = (i : Int) + 1 := IntWalk.i64_in _ (by omega)
      clear ho ya
      go_wp2_with (at_builtin; refine app_i32 (m := [r]) rfl (.tmp 12) (.tmp 15) rfl rfl (by exact HO.out.alloc _) _ _ 1 1 rfl rfl (by exact rd_one_at (enc := encI32) (size := 1) _ _ r rfl (by simp)) (by have := hlen.out; simp only [List.length_singleton]; omega) (by have := y3.size; simp at this ⊢; omega) ?_; intro v' w' hown' hgr hv')
      have s1 := below_app (y3.alloc y3.size _) (by have := y3.size; simp at this ⊢; omega) (HO.out.alloc _) (Nat.le_refl _) hgr
      go_wp2_with (fail)
      go_roundg (n - (i + 1))
      case measure => have := HG.out; omega
      case rel => exact ⟨i + 1, by omega, rfl, by go_num, by rw [E.out]; exact hown', s1⟩
    · have hin : i = n := by omega
      subst hin
      have e : (l.take i).map (·.c.r) = l.map (·.c.r) := by rw [List.take_of_length_le (by have := N.out; omega)]
      rw [e] at ho
      obtain ⟨A', c', rfl, _, _⟩ := ho.form
      have HO := Lib.hid ho
      clear ho e
      go_wp2_with (fail)
      go_ret
      exact ⟨A', c', by first | rfl | simp, HO.out, y⟩
end Go.Proofs.YtbdkbfoplpociaaGreatDoor
namespace Go.Proofs.YtbdkbfoplpociaaGreatDoor
open Go.RowKit
set_option linter.unusedVariables false
set_option linter.unusedSimpArgs false

theorem pasteM_new (p : Int) : InsB (mkRetain Mk.new p []) 0 := by
  unfold mkRetain
  split
  · exact InsB.new
  · exact ⟨Nat.le_refl _, fun o h => by cases h⟩
end Go.Proofs.YtbdkbfoplpociaaGreatDoor
namespace Go.Proofs.YtbdkbfoplpociaaGreatDoor
open Go.RowKit
set_option linter.unusedVariables false
set_option linter.unusedSimpArgs false

section
variable {w : World} {A B : Option Addr} {n c n2 c2 : Nat} {L M : List ClS}
theorem applyDoc {s : Nat} {l : List Ky} {most : Nat} {x : List OpS} (h : DocAt w A n c L) (hx : OpsAt w B n2 x) (hS : Sch w s l) (hT : Lib.Utf8Tabs 1 2 w) (hl : l.length ≤ 64) (hmo : most ≤ 10000)
    {us : List Un} (hz : applyN l x (clsOf L) (most : Int) = 0) (hu : app l (units (osOf x)) (clsOf L) = app l us (clsOf L)) :
    Calls Tryz.prog 38 #[.pointer (some ⟨s, 0, none⟩), .slice A n c, .slice B n2 c2, .int .i64 (most : Int)] w (fun e w' => ∃ A c M, e = .returned (.tuple #[.slice A M.length c, .int .i64 0]) ∧ clsOf M = app l us (clsOf L) ∧ mayD l (clsOf M) = 0 ∧ M.length ≤ most ∧ DocAt w' A M.length c M ∧ Below w.heap.size w w') :=
  applyDocI h hx hS hT hl hmo hz hz hu
theorem copyDoc (h : DocAt w A n c L) : Calls Tryz.prog 75 #[.slice A n c] w (fun e w' => ∃ A' c' M, e = .returned (.slice A' M.length c') ∧ clsOf M = clsOf L ∧ OwCs w' w.heap.size (.slice A' M.length c') M ∧ (∀ z ∈ M, PartC w' w.heap.size (.slice A' M.length c') z) ∧ Below w.heap.size w w') :=
  copyCells_any A n c L w h.len h.rd (by have := h.b; omega) (fun x hx => by have := (h.vr x hx).1; omega)
end
end Go.Proofs.YtbdkbfoplpociaaGreatDoor
namespace Go.Proofs.YtbdkbfoplpociaaGreatDoor
set_option linter.unusedVariables false
set_option linter.unusedSimpArgs false

theorem paste_take {d f : List Cl} {p : Nat} (hp : p ≤ d.length) : (d.take p ++ (f ++ d.drop p)).take p = d.take p := by
  rw [List.take_append_of_le_length (by rw [List.length_take]; omega), List.take_of_length_le (by rw [List.length_take]; omega)]
theorem paste_drop {d f : List Cl} {p : Nat} (hp : p ≤ d.length) : (d.take p ++ (f ++ d.drop p)).drop p = f ++ d.drop p := by
  have e : (d.take p).length = p := by rw [List.length_take]; omega
  rw [List.drop_append_of_le_length (by omega), List.drop_of_length_le (by omega), List.nil_append]
def goneU (i n : Nat) : List Un := List.replicate i (.ret []) ++ List.replicate n .del
theorem app_gone (l : List Ky) {d : List Cl} {i n : Nat} (h : i + n ≤ d.length) : app l (goneU i n) d = d.take i ++ d.drop (i + n) := by
  unfold goneU
  rw [app_ret0 l i _ d (by omega), app_dels, List.drop_drop]
theorem gone_fit {l : List Ky} {i n N : Nat} (h : i + (n + 1) < N) (hb : N ≤ 536870912) : FitU l (goneU i (n + 1)) N N := by
  refine ⟨fun u hu => ?_, ?_, by omega, Nat.le_refl _, ?_, ?_, ?_, ?_⟩
  · unfold goneU at hu
    rcases List.mem_append.1 hu with hu | hu
    · rw [(List.mem_replicate.1 hu).2]; exact mayP_nil l
    · rw [(List.mem_replicate.1 hu).2]; trivial
  · unfold goneU; rw [takes_ret, takesU_del]; omega
  · unfold goneU
    rw [finU_append, finU_reps, takesU_ret, Bool.true_and, finU_dels N n _ (by omega)]
    exact decide_eq_true (by omega)
  · unfold goneU; rw [takes_ret, takesU_del, makes_ret, makesU_del]; omega
  · unfold goneU; rw [takes_ret, takesU_del]; omega
  · unfold goneU; rw [makes_ret, makesU_del]; omega
end Go.Proofs.YtbdkbfoplpociaaGreatDoor
namespace Go.Proofs.YtbdkbfoplpociaaGreatDoor
open Go.RowKit
set_option linter.unusedVariables false
set_option linter.unusedSimpArgs false

def encInt (a : Int) : List Value := [.int .i64 a]
theorem encInt_len (a : Int) : (encInt a).length = 1 := rfl
theorem encInt_one (a : Int) : ∀ u ∈ encInt a, u.oneCell' = true := by intro u hu; simp [encInt] at hu; rw [hu]; rfl
theorem Tryz.infoInt : (Tryz.prog.info? 3).map (fun i => (i.zero, i.size, i.bytes)) = some (some (.int .i64 0), 1, 8) := by kernel_rfl
theorem Tryz.slInt : Tryz.prog.underlying 106 = some (.slice 3) := by kernel_rfl
abbrev OwInt := @Ow Int encInt 1 3
abbrev RdInt := @Rd Int encInt 1
section
variable {ops : Array Oper} {rest : List Oper} {o : Oper} {a : Act} {Q : Exit → Act → World → Prop} {w : World} {base : Nat} {v : Value}
theorem app_int {l m : List Int} (hgd : o.guard = none) (s x : Operand)
    (ho : o.op = .call { callee := .builtin .append, args := #[s, x], argTypes := #[106, 106] })
    (hsv : a.eval s = v) (hown : OwInt w base v l) (B : Nat) (A : Option Addr) (c n : Nat) (hx : a.eval x = .slice A n c) (hn : n = m.length) (hr : RdInt w B A m)
    (hb : l.length + m.length ≤ 2000000000000) (hbase : base ≤ w.heap.size)
    (h : ∀ v' w', OwInt w' base v' (l ++ m) → w.grownBy w' (wb v) → (v' = v ∧ w' = w ∨ wb v' = wb v ∨ wb v' = some w.heap.size) → wpList Tryz.prog ops Q rest (a.put o.dst v') w') : wpList Tryz.prog ops Q (o :: rest) a w := by
  obtain ⟨i0, hi0, hz0, hz1, hz2⟩ := info_parts Tryz.infoInt
  exact wpList_app hgd s x _ ho i0 _ 8 Tryz.slInt hi0 hz0 hz1 hz2 rfl (by omega) encInt_len encInt_one hsv hown B A c n hx hn hr (by simp only [maxLen]; omega) (by omega) hbase h
end

/-- the others of a key's group, by a row of keys -/
def othersL (ls : List Ky) (g id : Int) : List Int := (ls.filter (fun o => decide (o.group = g) && !decide (o.id = id))).map (·.id)
def groupL (l : List Ky) (id : Int) : List Int :=
  match findK l id with
  | none => []
  | some k => if k.group = 0 then [] else othersL l k.group id
theorem others_perm {a b : List Ky} (h : a.Perm b) (g id : Int) : (othersL a g id).Perm (othersL b g id) := (h.filter _).map _
theorem others_drop {ls : List Ky} {m : Nat} {x : Ky} {g id : Int} {r R : List Int} (hd : ls.drop m = x :: ls.drop (m + 1)) (h : r ++ othersL (ls.drop m) g id = R) :
    (x.group = g ∧ ¬ x.id = id ∧ (r ++ [x.id]) ++ othersL (ls.drop (m + 1)) g id = R) ∨ ((¬ x.group = g ∨ x.id = id) ∧ r ++ othersL (ls.drop (m + 1)) g id = R) := by
  rw [hd] at h
  unfold othersL at h ⊢
  rw [List.filter_cons] at h
  by_cases h1 : x.group = g
  · by_cases h2 : x.id = id
    · rw [if_neg (by simp [h2])] at h; exact .inr ⟨.inr h2, h⟩
    · rw [if_pos (by simp [h1, h2])] at h
      exact .inl ⟨h1, h2, by rw [← h]; simp⟩
  · rw [if_neg (by simp [h1])] at h; exact .inr ⟨.inl h1, h⟩
/-- what Group answers -/
def GroupOut (l : List Ky) (id : Int) (w : World) (e : Ending) (w' : World) : Prop :=
  ∃ (g : List Int) (A : Option Addr) (c : Nat), e = .returned (.slice A g.length c) ∧ g.Perm (groupL l id) ∧ g.length ≤ l.length ∧ OwInt w' w.heap.size (.slice A g.length c) g ∧ Below w.heap.size w w'

set_option maxRecDepth 100000 in
set_option maxHeartbeats 1600000 in
theorem groupS_any (s : Nat) (l : List Ky) (id : Int) (w : World) (h : Sch w s l) (hl : l.length ≤ 1000000) :
    Calls Tryz.prog 217 #[.pointer (some ⟨s, 0, none⟩), .int .i64 id] w (GroupOut l id w) := by
  obtain ⟨bm, A, n, c, ls, hb, hm, hn, hp, hs, hr⟩ := (show Sch w s l from h)
  have N := Lib.hid hn
  have PM := Lib.hid hp
  have hlen := hp.length_eq
  have HH := Lib.hid h
  have hn2 : n ≤ 1000000 := by omega
  have HB0 := Lib.hid hb
  have HLE := Lib.hid hlen
  clear hn hp hm h hb hlen
  go_enter Tryz.func217, Tryz.ntmps217
  go_wp2_with (go_at_call 82; refine Hid.out ?_)
  refine Lib.hid ?_
  refine (findS_any s l id w HH.out).mono ?_
  rintro e w1 ⟨i, k1, kd, k2, k3, q, ok, rfl, hk, hbk, y1⟩
  have y2 := ext_alloc w1 (.cells #[.int .i64 i, .bool k1, .int .u8 kd, .bool k2, .bool k3, .int .i64 q] 112)
  have hbx := heap_alloc_new w1 (.cells #[.int .i64 i, .bool k1, .int .u8 kd, .bool k2, .bool k3, .int .i64 q] 112)
  have y := ext_trans y1 y2
  have HK := Lib.hid hk
  have HB := Lib.hid hbk
  have HBX := Lib.hid hbx
  clear hk hbk hbx
  cases ok with
  | false =>
    have HG : Hid (groupL l id = []) := Lib.hid (by
      have h1 := HB.out
      unfold groupL
      cases hq : findK l id with
      | none => rfl
      | some k => rw [hq] at h1; cases h1)
    go_wp2_with (fail)
    go_ret
    exact ⟨[], none, 0, rfl, by rw [HG.out], by simp, Ow.nil _ _, y⟩
  | true =>
    have HG : Hid (groupL l id = if q = 0 then [] else othersL l q id) := Lib.hid (by
      have h1 := HB.out
      have h2 := HK.out
      unfold groupL
      cases hq : findK l id with
      | none => rw [hq] at h1; cases h1
      | some k => rw [hq] at h2; simp only [Option.getD_some] at h2; subst h2; rfl)
    obtain ⟨b0, b1, b2, b3, b4, b5⟩ := box_ky HBX.out
    by_cases hq : q = 0
    · subst hq
      go_wp2_with (fail)
      go_ret
      exact ⟨[], none, 0, rfl, by rw [HG.out]; simp, by simp, Ow.nil _ _, y⟩
    have hq0 : (q == 0) = false := beq_eq_false_iff_ne.2 hq
    have HGL : Hid (groupL l id = othersL l q id) := Lib.hid (by rw [HG.out, if_neg hq])
    obtain ⟨R, hR⟩ : ∃ X, othersL ls q id = X := ⟨_, rfl⟩
    have RR := Lib.hid hR
    have hbs := (y.block s (lt_of_some HB0.out)).trans HB0.out
    obtain ⟨s0, s1⟩ := box_2 hbs
    have hr1 := hr.ext y
    clear hq hR hbs
    go_wp2_with (fail)
    obtain ⟨w2, hw2⟩ : ∃ w2, w1.alloc (.cells #[.int .i64 i, .bool k1, .int .u8 kd, .bool k2, .bool k3, .int .i64 q] 112) = w2 := ⟨_, rfl⟩
    have hbx2 : w2.heap[w1.heap.size]? = some (.cells #[.int .i64 i, .bool k1, .int .u8 kd, .bool k2, .bool k3, .int .i64 q] 112 (0, 0)) := by rw [← hw2]; exact HBX.out
    have hsz2 : w2.heap.size = w1.heap.size + 1 := by rw [← hw2]; simp
    rw [hw2] at y hr1 s0 s1
    have HBX2 := Lib.hid hbx2
    have HSZ2 := Lib.hid hsz2
    clear hbx2 hsz2 b0 b1 b2 b3 b4 b5 y2 HBX
    go_loopg [7, 28] n (fun g ov iv wr => ∃ (m : Nat) (r : List Int), m ≤ n ∧ g = n - m ∧ iv = .int .i64 (m : Int) ∧ OwInt wr w2.heap.size ov r ∧ r.length ≤ m ∧ Below w2.heap.size w2 wr ∧ Hid (r ++ othersL (ls.drop m) q id = R))
    case atStart => exact ⟨0, [], by omega, rfl, rfl, Ow.nil _ _, by simp, by rw [hw2]; exact Below.refl _ _, Lib.hid (by simpa using RR.out)⟩
    case round =>
      obtain ⟨m, r, hm, hg, rfl, hown, hrl, yr, HI⟩ := hrel
      have HGG := Lib.hid hg
      clear hg
      have hbx3 := (yr.block _ (lt_of_some HBX2.out)).trans HBX2.out
      obtain ⟨b0, b1, b2, b3, b4, b5⟩ := box_ky hbx3
      by_cases hlt : m < n
      · obtain ⟨ad, x, rfl, had, hd1, _, hc0⟩ := (hr1.below yr (Nat.le_refl _)).el (i := m) (by have := N.out; omega)
        have hst := others_drop hd1 HI.out
        obtain ⟨x1, x2, x3, x4, x5, x6⟩ := x
        obtain ⟨r0, r1, r2, r3, r4, r5⟩ := ky_cells hc0
        simp only at hst
        clear hc0 hd1 HI
        have y3 := ext_alloc wr (.cells #[.int .i64 x1, .bool x2, .int .u8 x3, .bool x4, .bool x5, .int .i64 x6] 112)
        have hbx4 := heap_alloc_new wr (.cells #[.int .i64 x1, .bool x2, .int .u8 x3, .bool x4, .bool x5, .int .i64 x6] 112)
        have hbx5 := (y3.block _ (lt_of_some hbx3)).trans hbx3
        obtain ⟨d0, d1, d2, d3, d4, d5⟩ := box_ky hbx5
        obtain ⟨f0, f1, f2, f3, f4, f5⟩ := box_ky hbx4
        clear hbx3 hbx4 hbx5
        have yw := ext_trans yr y3
        have hw3 : IntKind.i64.wrap ((m:Int) + 1) = (m : Int) + 1 := IntWalk.i64_in _ (by omega)
        have HOW := Lib.hid (hown.below y3 (Nat.le_refl _))
        clear hown
        rcases hst with ⟨h1, h2, h3⟩ | ⟨h1, h3⟩
        · subst h1
          have hne : (x1 == id) = false := beq_eq_false_iff_ne.2 h2
          have H3 := Lib.hid h3
          clear h2 h3
          go_wp2_with (at_builtin; refine app_int (m := [x1]) rfl (.tmp 43) (.tmp 46) rfl rfl (by exact HOW.out.alloc _) _ _ 1 1 rfl rfl (by exact rd_one_at (enc := encInt) (size := 1) (wr.alloc _) _ x1 rfl (by simp)) (by simp only [List.length_singleton]; omega) (by have := yw.size; simp at this ⊢; omega) ?_; intro v' w' hown' hgr hv')
          have s1 := below_app (yw.alloc yw.size _) (by have := yw.size; simp at this ⊢; omega) (HOW.out.alloc _) (Nat.le_refl _) hgr
          go_roundg (n - (m + 1))
          case measure => have := HGG.out; omega
          case rel => exact ⟨m + 1, r ++ [x1], by omega, rfl, by go_num, hown', by simp; omega, s1, H3⟩
        · have H3 := Lib.hid h3
          clear h3
          by_cases h2 : x6 = q
          · have h4 : x1 = id := by rcases h1 with h | h; exact absurd h2 h; exact h
            subst h2 h4
            clear h1
            go_wp2_with (fail)
            go_roundg (n - (m + 1))
            case measure => have := HGG.out; omega
            case rel => exact ⟨m + 1, r, by omega, rfl, by go_num, HOW.out, by omega, yw, H3⟩
          · have hne : (x6 == q) = false := beq_eq_false_iff_ne.2 h2
            clear h1 h2
            go_wp2_with (fail)
            go_roundg (n - (m + 1))
            case measure => have := HGG.out; omega
            case rel => exact ⟨m + 1, r, by omega, rfl, by go_num, HOW.out, by omega, yw, H3⟩
      · have hmn : m = n := by omega
        have hR : r = R := by
          have h := HI.out
          rw [List.drop_eq_nil_of_le (by have := N.out; omega)] at h
          simpa [othersL] using h
        obtain ⟨A', c', rfl, _, _⟩ := hown.form
        have HOW := Lib.hid (hown.base_le y.size)
        clear hown
        go_wp2_with (fail)
        go_ret
        refine ⟨r, A', c', rfl, ?_, by have := HLE.out; have := N.out; omega, HOW.out, ext_trans y yr⟩
        rw [hR, HGL.out, ← RR.out]
        exact others_perm PM.out _ _
end Go.Proofs.YtbdkbfoplpociaaGreatDoor
namespace Go.Proofs.YtbdkbfoplpociaaGreatDoor
set_option linter.unusedVariables false
set_option linter.unusedSimpArgs false

def onceU (i n : Nat) (p : List Ch) : List Un := List.replicate i (.ret []) ++ List.replicate n (.ret p)
theorem once_fit {l : List Ky} {i n N : Nat} {p : List Ch} (hp : mayP l p = 0) (hn : 1 ≤ N) (h : i + n ≤ N) (hb : N ≤ 536870912) : FitU l (onceU i n p) N N := by
  refine ⟨fun u hu => ?_, ?_, hn, Nat.le_refl _, ?_, ?_, ?_, ?_⟩
  · unfold onceU at hu
    rcases List.mem_append.1 hu with hu | hu
    · rw [(List.mem_replicate.1 hu).2]; exact mayP_nil l
    · rw [(List.mem_replicate.1 hu).2]; exact hp
  · unfold onceU; rw [takes_ret, takesU_ret]; exact h
  · unfold onceU; rw [finU_append, finU_reps, finU_reps]; rfl
  · unfold onceU; rw [takes_ret, takesU_ret, makes_ret, makesU_ret]; omega
  · unfold onceU; rw [takes_ret, takesU_ret]; omega
  · unfold onceU; rw [makes_ret, makesU_ret]; omega
end Go.Proofs.YtbdkbfoplpociaaGreatDoor
