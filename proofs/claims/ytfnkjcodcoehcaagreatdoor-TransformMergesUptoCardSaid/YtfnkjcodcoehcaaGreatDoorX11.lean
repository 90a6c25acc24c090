/- Merged texts. -/
import Derived.Test.YtfnkjcodcoehcaaGreatDoorX10
namespace Go.Proofs.YtfnkjcodcoehcaaGreatDoor
set_option maxRecDepth 100000
set_option maxHeartbeats 3200000
open Go.RowKit
open Go.Lib (hid Utf8Tabs)
set_option linter.unusedVariables false
set_option linter.unusedSimpArgs false
theorem Z6E (b1 b2 : Nat) (pr : At → Bool) (A : Option Addr) (n c : Nat) (l : List At) (w : World) (hn : n = l.length) (h : RdAt w w.heap.size A l) (hb : n ≤ 140737488355328)
 (hcl : ∀ (x1 x2 x3 x4 : Int) (x5 : ByteArray) (w' : World), Below w.heap.size w w' → Calls Tryz.prog 188 #[.agg #[.int .i64 x1, .int .u8 x2, .int .i64 x3, .int .u64 x4, .string x5], .pointer (some ⟨b1, 0, none⟩), .pointer (some ⟨b2, 0, none⟩)] w' fun e w'' => e = .returned (.bool (pr ⟨x1, ⟨x2, x3, x4, x5⟩⟩)) ∧ Below w'.heap.size w' w'') :
 Calls Tryz.prog 219 #[.slice A n c, .func (.func 188) #[] #[.pointer (some ⟨b1, 0, none⟩), .pointer (some ⟨b2, 0, none⟩)]] w fun e w' => ∃ i : Int, e = .returned (.int .i64 i) ∧ IdxOut pr l i ∧ Below w.heap.size w w' := by
 have N := hid hn
 have HCL := hid hcl
 clear hn hcl
 go_enter Tryz.func219, Tryz.ntmps219
 go_wp2_with (fail)
 go_loopg [8] n (fun g iv wr => ∃ i : Nat, i ≤ n ∧ g = n - i ∧ iv = .int .i64 i ∧ Below w.heap.size w wr ∧ Hid (∀ x ∈ l.take i, pr x = false))
 case atStart => exact ⟨0, by omega, rfl, rfl, Below.refl _ _, hid (by simp)⟩
 case round =>
  obtain ⟨i, hi, hg, rfl, hbw, HI⟩ := hrel
  have HG := hid hg
  clear hg
  by_cases hlt : i < n
  ·have hil : i < l.length := by have := N.out; omega
   obtain ⟨ad, x, rfl, _, _, hx, hc1⟩ := (h.below hbw (Nat.le_refl _)).el hil
   have HT : Hid (l.take (i + 1) = l.take i ++ [x]) := hid (by rw [List.take_add_one, hx]; rfl)
   have HX := hid hx
   clear hx hil
   obtain ⟨x1, x2, x3, x4, x5⟩ := x
   obtain ⟨r0, r1, r2, r3, r4⟩ := Z0P hc1
   clear hc1
   by_cases hp : pr ⟨x1, ⟨x2, x3, x4, x5⟩⟩ = true
   ·go_wp2_with (go_at_call 188; refine (HCL.out _ _ _ _ _ _ hbw).mono ?_; rintro e w' ⟨rfl, hb'⟩)
    go_ret
    exact ⟨i, rfl, .inr ⟨i, rfl, by have := N.out; omega, HI.out, _, HX.out, hp⟩, hbw.trans (hb'.mono hbw.size)⟩
   ·have hp' : pr ⟨x1, ⟨x2, x3, x4, x5⟩⟩ = false := by simpa using hp
    clear hp
    go_wp2_with (go_at_call 188; refine (HCL.out _ _ _ _ _ _ hbw).mono ?_; rintro e w' ⟨rfl, hb'⟩)
    have hbw' := hbw.trans (hb'.mono hbw.size)
    go_roundg (n - (i + 1))
    case measure => have := HG.out; omega
    case rel =>
     refine ⟨i + 1, by omega, rfl, by go_num, hbw', hid ?_⟩
     intro y hy
     rw [HT.out] at hy
     rcases List.mem_append.1 hy with hy | hy
     ·exact HI.out y hy
     ·simp at hy; rw [hy]; exact hp'
  ·go_wp2_with (fail)
   go_ret
   refine ⟨-1, rfl, .inl ⟨rfl, ?_⟩, hbw⟩
   have h1 := HI.out
   rw [List.take_of_length_le (by have := N.out; omega)] at h1
   exact h1
theorem Z6d (b1 b2 : Nat) (pr : At → Bool) (A : Option Addr) (n c base : Nat) (l : List At) (w : World) (hown : OwAt w base (.slice A n c) l) (hbase : base ≤ w.heap.size) (hb : n ≤ 100000000) (hn : n = l.length)
 (hcl : ∀ (x1 x2 x3 x4 : Int) (x5 : ByteArray) (w' : World), Below base w w' → Calls Tryz.prog 188 #[.agg #[.int .i64 x1, .int .u8 x2, .int .i64 x3, .int .u64 x4, .string x5], .pointer (some ⟨b1, 0, none⟩), .pointer (some ⟨b2, 0, none⟩)] w' fun e w'' => e = .returned (.bool (pr ⟨x1, ⟨x2, x3, x4, x5⟩⟩)) ∧ Below w'.heap.size w' w'') :
 Calls Tryz.prog 186 #[.slice A n c, .func (.func 188) #[] #[.pointer (some ⟨b1, 0, none⟩), .pointer (some ⟨b2, 0, none⟩)]] w fun e w' =>
  ∃ A' c', e = .returned (.slice A' (l.filter (fun x => !pr x)).length c') ∧ OwAt w' base (.slice A' (l.filter (fun x => !pr x)).length c') (l.filter (fun x => !pr x)) ∧ Below base w w' := by
 have N := hid hn
 have HCL := hid hcl
 have hcap := hown.cap
 have hlc : n ≤ c := by rw [hn]; exact hcap.1
 have hcm : c ≤ 2 ^ 63 - 1 := hcap.2
 clear hn hcl hcap
 generalize hR : l.filter (fun x => !pr x) = R
 have HR := hid hR
 clear hR
 go_enter Tryz.func186, Tryz.ntmps186
 go_wp2_with (go_at_call 219; refine Hid.out ?_)
 refine hid ?_
 refine (Z6E b1 b2 pr A n c l w N.out (hown.rd At.enc_len) (by omega) (fun x1 x2 x3 x4 x5 w' hb' => HCL.out x1 x2 x3 x4 x5 w' (hb'.mono hbase))).mono ?_
 rintro e w1 ⟨ix, rfl, hix, hb1⟩
 have hbw1 : Below base w w1 := hb1.mono hbase
 have hown1 := hown.below hb1 (Nat.le_refl _)
 have hbase1 : base ≤ w1.heap.size := Nat.le_trans hbase hb1.size
 clear hown hb1
 rcases hix with ⟨rfl, hall⟩ | ⟨i0, rfl, hi0, hpre, x0, hx0, hpx0⟩
 ·have hRl : R = l := by
   rw [← HR.out]
   exact List.filter_eq_self.2 (fun x hx => by simp [hall x hx])
  have HRL := hid hRl
  clear hRl hall
  go_wp2_with (fail)
  go_ret
  refine ⟨A, c, ?_, ?_, hbw1⟩
  ·rw [HRL.out, ← N.out]; rfl
  ·rw [HRL.out, ← N.out]; exact hown1
 ·have hne : ((i0 : Int) == -1) = false := beq_eq_false_iff_ne.2 (by omega)
  have hi0n : i0 < n := by rw [N.out]; exact hi0
  have hst : Hid (l.take i0 = (l.take (i0 + 1)).filter (fun x => !pr x)) := hid (by
   rw [List.take_add_one, hx0, List.filter_append, List.filter_eq_self.2 (fun x hx => by simp [hpre x hx])]
   simp [hpx0])
  clear hpre hx0 hpx0 hi0
  go_wp2_with (fail)
  go_loopg [5, 6] (n - (i0 + 1)) (fun g iv jv wr => ∃ (i j : Nat) (m : List At), i < j ∧ j ≤ n ∧ g = n - j ∧ iv = .int .i64 i ∧ jv = .int .i64 j ∧ OwAt wr base (.slice A n c) m ∧ base ≤ wr.heap.size ∧ Below base w wr ∧
   Hid (m.length = n ∧ m.drop j = l.drop j ∧ m.take i = (l.take j).filter (fun x => !pr x)))
  case atStart => exact ⟨i0, i0 + 1, l, by omega, by omega, rfl, rfl, by go_num, hown1, hbase1, hbw1, hid ⟨N.out.symm, rfl, hst.out⟩⟩
  case round =>
   clear hown1 hbase1 hbw1 hst hne hi0n
   obtain ⟨i, j, m, hij, hj, hg, rfl, rfl, hown, hbs, hbw, HI⟩ := hrel
   have HG := hid hg
   clear hg
   by_cases hlt : j < n
   ·have hjm : j < m.length := by have := HI.out.1; omega
    obtain ⟨ad, x, rfl, _, hdm, hx, hc1⟩ := (hown.rd At.enc_len).el hjm
    have HX : Hid (l.take (j + 1) = l.take j ++ [x] ∧ m.drop (j + 1) = l.drop (j + 1)) := hid (by
     obtain ⟨h1, h2, h3⟩ := HI.out
     have h4 : l[j]? = some x := by
      have := congrArg (fun t => t[0]?) h2
      simp only [List.getElem?_drop, Nat.add_zero] at this
      rw [← this, hx]
     refine ⟨by rw [List.take_add_one, h4]; rfl, ?_⟩
     have := congrArg (fun t => t.drop 1) h2
     simpa [List.drop_drop] using this)
    clear hdm hx hjm
    obtain ⟨x1, x2, x3, x4, x5⟩ := x
    obtain ⟨r0, r1, r2, r3, r4⟩ := Z0P hc1
    clear hc1
    have hbx0 := heap_alloc_new wr (.cells #[.int .i64 x1, .int .u8 x2, .int .i64 x3, .int .u64 x4, .string x5] 43)
    have hbwA := hbw.alloc hbs (.cells #[.int .i64 x1, .int .u8 x2, .int .i64 x3, .int .u64 x4, .string x5] 43)
    have hownA := hown.alloc (.cells #[.int .i64 x1, .int .u8 x2, .int .i64 x3, .int .u64 x4, .string x5] 43)
    have hsz := Z16 wr (.cells #[.int .i64 x1, .int .u8 x2, .int .i64 x3, .int .u64 x4, .string x5] 43)
    have hwbA : ∀ k, wb (.slice (some ad) n c) = some k → k < wr.heap.size := fun k hk => (hown.wb_lt k hk).2
    by_cases hp : pr ⟨x1, ⟨x2, x3, x4, x5⟩⟩ = true
    ·have HBX0 := hid hbx0
     have HWB := hid hwbA
     have HSZ := hid hsz
     clear hbx0 hwbA hsz
     go_wp2_with (go_at_call 188; refine (HCL.out _ _ _ _ _ _ hbwA).mono ?_; rintro e w2 ⟨rfl, hb2⟩)
     have hbw2 : Below base w w2 := hbwA.trans (hb2.mono (by rw [← HSZ.out]; omega))
     have hown2 := hownA.below hb2 (Nat.le_refl _)
     have hbs2 : base ≤ w2.heap.size := by have := hb2.size; rw [← HSZ.out] at this; omega
     go_roundg (n - (j + 1))
     case measure => have := HG.out; omega
     case rel =>
      obtain ⟨h1, h2, h3⟩ := HI.out
      obtain ⟨h4, h5⟩ := HX.out
      exact ⟨i, j + 1, m, by omega, by omega, rfl, rfl, by go_num, hown2, hbs2, hbw2, hid ⟨h1, h5, by rw [h4, List.filter_append, h3]; simp [hp]⟩⟩
    ·have hp' : pr ⟨x1, ⟨x2, x3, x4, x5⟩⟩ = false := by simpa using hp
     clear hp
     have HBX0 := hid hbx0
     have HWB := hid hwbA
     have HSZ := hid hsz
     clear hbx0 hwbA hsz
     go_wp2_with (go_at_call 188; refine Hid.out ?_)
     refine hid ?_
     refine (HCL.out _ _ _ _ _ _ hbwA).mono ?_
     rintro e w2 ⟨rfl, hb2⟩
     have hbw2 : Below base w w2 := hbwA.trans (hb2.mono (by rw [← HSZ.out]; omega))
     have hown2 := hownA.below hb2 (Nat.le_refl _)
     have hbs2 : base ≤ w2.heap.size := by have := hb2.size; rw [← HSZ.out] at this; omega
     have hbx2 := (hb2.block wr.heap.size (by rw [← HSZ.out]; omega)).trans HBX0.out
     obtain ⟨b0, b1, b2, b3, b4⟩ := Z0L hbx2
     have him : i < m.length := by have := HI.out.1; omega
     have hin : i < n := by omega
     clear hbx2
     obtain ⟨i1, hi1, hz1, hz2, hz3⟩ := info_parts Tryz.infoAt
     have I1 := hid hi1
     have Z2 := hid hz2
     clear hi1 hz1 hz2 hz3 hownA hbwA
     go_wp2_with (refine Z2Q rfl 43 (.tmp 33) (.tmp 32) rfl rfl i1 I1.out Z2.out At.enc_len At.enc_one hown2 him ⟨x1, ⟨x2, x3, x4, x5⟩⟩ (cs := #[.int .i64 x1, .int .u8 x2, .int .i64 x3, .int .u64 x4, .string x5]) rfl (p := ad.add (i * 5)) rfl rfl rfl ?_; intro w3 hown3 hg3)
     have hbw3 : Below base w w3 := hbw2.grown hg3 hbs2 (fun k hk => (hown2.wb_lt k hk).1)
     have hbs3 : base ≤ w3.heap.size := Nat.le_trans hbs2 hg3.size
     go_roundg (n - (j + 1))
     case measure => have := HG.out; omega
     case rel =>
      obtain ⟨h1, h2, h3⟩ := HI.out
      obtain ⟨h4, h5⟩ := HX.out
      refine ⟨i + 1, j + 1, m.set i ⟨x1, ⟨x2, x3, x4, x5⟩⟩, by omega, by omega, rfl, by go_num, by go_num, hown3, hbs3, hbw3, hid ⟨by rw [List.length_set]; exact h1, by rw [List.drop_set_of_lt (by omega)]; exact h5, ?_⟩⟩
      rw [h4, List.filter_append, List.take_add_one, List.getElem?_set_self him, List.take_set_of_le (Nat.le_refl i), h3]
      simp [hp']
   ·have hjn : j = n := by omega
    have hm0 := HI.out
    obtain ⟨i1, hi1, hz1, hz2, hz3⟩ := info_parts Tryz.infoAt
    have I1 := hid hi1
    have Z1 := hid hz1
    have hmR : m.take i = R := by
     obtain ⟨h1, h2, h3⟩ := hm0
     rw [h3, ← HR.out, List.take_of_length_le (by have := N.out; omega)]
    have him : i ≤ m.length := by have := hm0.1; omega
    have hiR : i = R.length := by rw [← hmR, List.length_take, Nat.min_eq_left him]
    have HIR := hid hiR
    have HMR := hid hmR
    have HML : Hid (m.length = n) := hid hm0.1
    clear hi1 hz1 hz2 hz3 hmR hiR hm0 hjn
    rcases Nat.lt_or_ge i c with hci | hci
    ·have hne : ¬ c = i := by omega
     go_wp2_with (refine Z1h (i := i) (X := A.map (fun x => x.add (i * 5))) rfl (.tmp 38) _ rfl rfl Tryz.slAt i1 _ I1.out Z1.out rfl (by intro u hu; exact At.enc_one ⟨0, V.zero⟩ u hu) At.enc_len hown him (by exact .inr rfl) (by rw [HML.out]) rfl ?_; intro w3 hown3 hg3)
     have hbw3 : Below base w w3 := hbw.grown hg3 hbs (fun k hk => (hown.wb_lt k hk).1)
     rw [HMR.out] at hown3
     have hri := HIR.out
     subst hri
     go_ret
     exact ⟨A, c, rfl, hown3, hbw3⟩
    ·go_wp2_with (refine Z1h (i := i) (X := A) rfl (.tmp 38) _ rfl rfl Tryz.slAt i1 _ I1.out Z1.out rfl (by intro u hu; exact At.enc_one ⟨0, V.zero⟩ u hu) At.enc_len hown him (by have := HML.out; left; omega) (by rw [HML.out]) rfl ?_; intro w3 hown3 hg3)
     have hbw3 : Below base w w3 := hbw.grown hg3 hbs (fun k hk => (hown.wb_lt k hk).1)
     rw [HMR.out] at hown3
     have hri := HIR.out
     subst hri
     go_ret
     exact ⟨A, c, rfl, hown3, hbw3⟩
theorem Z6e (A : Option Addr) (n c : Nat) (l : List At) (w : World) (hn : n = l.length) (h : RdAt w w.heap.size A l) (hb : n ≤ 100000000) :
 Calls Tryz.prog 187 #[.slice A n c] w (Z83 l w) := by
 cases A with
 | none =>
   have hl : l = [] := by
    cases l with
    | nil => rfl
    | cons a l => obtain ⟨ad, e, _⟩ := h (by simp); cases e
   subst hl
   have hn0 : n = 0 := by simpa using hn
   subst hn0
   clear hn
   have hq := fun (w : World) => Lib.run_eql_slice_nil (P := Tryz.prog) w 36 43 none 0 c 0 0 Tryz.slAt
   go_enter Tryz.func187, Tryz.ntmps187
   go_wp2_with (fail)
   go_ret
   exact ⟨none, 0, rfl, Ow.nil _ _, Below.refl _ _⟩
 | some ad =>
   have N := hid hn
   clear hn
   have hq := fun (w : World) => Lib.run_eql_slice_nil (P := Tryz.prog) w 36 43 (some ad) n c 0 0 Tryz.slAt
   go_enter Tryz.func187, Tryz.ntmps187
   go_wp2_with (first
    | (at_builtin; refine Z2S (m := l) rfl (.tmp 5) (.tmp 6) rfl rfl (by exact Ow.empty _ w.heap.size _) _ _ _ _ rfl N.out (by exact h.ext (Z0b w _)) (by have := N.out; simp only [List.length_nil]; omega) (by simp) ?_; intro v' w' hown' hgr hv'))
   rw [List.nil_append] at hown'
   obtain ⟨A', c', rfl, _, _⟩ := hown'.form
   go_ret
   exact ⟨A', c', rfl, hown', (Z0b w _).grown hgr (by simp) (fun k hk => by cases hk)⟩
theorem Z39 (A : Option Addr) (n c : Nat) (l : List Ch) (w : World) (hn : n = l.length) (h : RdCh w w.heap.size A l) (hb : n ≤ 100000000) :
 Calls Tryz.prog 168 #[.slice A n c] w (Y2b l w) := by
 cases A with
 | none =>
   have hl : l = [] := by
    cases l with
    | nil => rfl
    | cons a l => obtain ⟨ad, e, _⟩ := h (by simp); cases e
   subst hl
   have hn0 : n = 0 := by simpa using hn
   subst hn0
   clear hn
   have hq := fun (w : World) => Lib.run_eql_slice_nil (P := Tryz.prog) w 48 77 none 0 c 0 0 Tryz.slCh
   go_enter Tryz.func168, Tryz.ntmps168
   go_wp2_with (fail)
   go_ret
   exact ⟨none, 0, rfl, Ow.nil _ _, Below.refl _ _⟩
 | some ad =>
   have N := hid hn
   clear hn
   have hq := fun (w : World) => Lib.run_eql_slice_nil (P := Tryz.prog) w 48 77 (some ad) n c 0 0 Tryz.slCh
   go_enter Tryz.func168, Tryz.ntmps168
   go_wp2_with (first
    | (at_builtin; refine Y4T (m := l) rfl (.tmp 5) (.tmp 6) rfl rfl (by exact Ow.empty _ w.heap.size _) _ _ _ _ rfl N.out (by exact h.ext (Z0b w _)) (by have := N.out; simp only [List.length_nil]; omega) (by simp) ?_; intro v' w' hown' hgr hv'))
   rw [List.nil_append] at hown'
   obtain ⟨A', c', rfl, _, _⟩ := hown'.form
   go_ret
   exact ⟨A', c', rfl, hown', (Z0b w _).grown hgr (by simp) (fun k hk => by cases hk)⟩
theorem Z9V {x : Int} : ∀ {keys : List Int}, keys.Pairwise (· < ·) → keys.length ≤ (keys.filter (fun k => decide (k ≠ x))).length + 1
 | [], _ => by simp
 | a :: r, h => by
   have h1 := List.pairwise_cons.1 h
   by_cases e : a = x
   ·have hf : (a :: r).filter (fun k => decide (k ≠ x)) = r := by
     rw [List.filter_cons, if_neg (by simp [e])]
     refine List.filter_eq_self.2 fun b hb => ?_
     have := h1.1 b hb
     simp; omega
    rw [hf]; simp
   ·rw [List.filter_cons, if_pos (by simp [e])]
    have := Z9V h1.2 (x := x)
    simp only [List.length_cons]; omega
theorem Y32 {l : List Ky} : ∀ {keys : List Int}, keys.Pairwise (· < ·) → (∀ k ∈ keys, (Z0N l k).isSome = true) → keys.length ≤ l.length := by
 induction l with
 | nil =>
   intro keys _ h
   cases keys with
   | nil => simp
   | cons a r => have := h a (by simp); simp [Z0N] at this
 | cons x l ih =>
   intro keys hp h
   have h1 := ih (keys := keys.filter (fun k => decide (k ≠ x.id))) (List.Pairwise.filter _ hp) (fun k hk => by
    obtain ⟨hk1, hk2⟩ := List.mem_filter.1 hk
    have hk2 : ¬ k = x.id := by simpa using hk2
    have h3 := h k hk1
    have h4 : ¬ x.id = k := fun e => hk2 e.symm
    simpa [Z0N, h4] using h3)
   have h2 := Z9V (x := x.id) hp
   simp only [List.length_cons]; omega
theorem Z8e {l : List Ky} {id : Int} {v : V} (h : Z2C l id v = true) : (Z0N l id).isSome = true := by
 unfold Z2C at h
 cases hq : Z0N l id with
 | none => rw [hq] at h; cases h
 | some k => rfl
theorem Y2d {l : List Ky} {p : List At} (hp : Z1H p = true) (h : ∀ c ∈ p, Z1u l c = true) : p.length ≤ l.length := by
 have h1 := Z1c.1 hp
 have h2 : (p.map (·.key)).Pairwise (· < ·) := List.pairwise_map.2 h1
 have h3 := Y32 (l := l) h2 (fun k hk => by
  obtain ⟨c, hc, rfl⟩ := List.mem_map.1 hk
  exact Z8e (h c hc))
 simpa using h3
theorem stayA {l : List Ky} (hl : l.length ≤ 64) {p : List At} (hs : Srt At.key p) (h : ∀ c ∈ p, okA c = true ∧ Z1u l c = true) : mayS l p = 0 := by
 have h1 := Y2d (l := l) (Z1c.2 hs) (fun c hc => (h c hc).2)
 unfold mayS
 rw [if_neg (by omega), if_pos ⟨Z1c.2 hs, List.all_eq_true.2 (fun c hc => (h c hc).1)⟩, if_pos (List.all_eq_true.2 (fun c hc => (h c hc).2))]
def Z84 (l : List At) (a : At) : List At := Z04 [⟨a.key, false, a.v⟩] l
theorem Z0j {B : Nat} {a b : World} (h : Below B a b) : Below B a b.drew := ⟨h.1, h.2, h.3, h.4, h.5⟩
theorem Y03 (A B : Option Addr) (n m c d : Nat) (l k : List At) (w : World) (hn : n = l.length) (hm : m = k.length) (h1 : RdAt w w.heap.size A l) (h2 : RdAt w w.heap.size B k) (hb : n ≤ 140737488355328) (hb2 : m ≤ 140737488355328) :
 Calls Tryz.prog 192 #[.slice A n c, .slice B m d] w (Z7V (.bool (decide (l = k))) w) := by
 have N := hid hn
 have M := hid hm
 generalize hR : decide (l = k) = R
 have HR := hid hR
 clear hn hR hm
 by_cases hnm : (n : Int) = m
 ·have hnm' : n = m := by omega
  subst hnm'
  clear hnm
  go_enter Tryz.func192, Tryz.ntmps192
  go_wp2_with (fail)
  go_loopg [13] n (fun g iv wr => ∃ i : Nat, i ≤ n ∧ g = n - i ∧ iv = .int .i64 (i : Int) ∧ (∃ d, wr = w.drewN d) ∧ Hid (decide (l.drop i = k.drop i) = R))
  case atStart => exact ⟨0, by omega, rfl, rfl, ⟨0, rfl⟩, hid (by rw [List.drop_zero, List.drop_zero]; exact HR.out)⟩
  case round =>
   obtain ⟨i, hi, hg, rfl, ⟨q, rfl⟩, HI⟩ := hrel
   have HG := hid hg
   clear hg HR
   by_cases hlt : i < n
   ·have hl1 : i < l.length := by have := N.out; omega
    have hl2 : i < k.length := by have := M.out; omega
    obtain ⟨ad, x, rfl, _, hd1, _, hc1⟩ := h1.el hl1
    obtain ⟨ad2, y, rfl, _, hd2, _, hc2⟩ := h2.el hl2
    have HI' : Hid (decide (x :: l.drop (i + 1) = y :: k.drop (i + 1)) = R) := hid (by rw [← HI.out, hd1, hd2])
    clear HI hd1 hd2
    obtain ⟨x1, x2, x3, x4, x5⟩ := x
    obtain ⟨y1, y2, y3, y4, y5⟩ := y
    obtain ⟨r0, r1, r2, r3, r4⟩ := Z0P hc1
    obtain ⟨s0, s1, s2, s3, s4⟩ := Z0P hc2
    by_cases hxy : (⟨x1, ⟨x2, x3, x4, x5⟩⟩ : At) = ⟨y1, ⟨y2, y3, y4, y5⟩⟩
    ·have hq := Z9D hxy
     have HXY := hid hxy
     clear hxy
     go_wp2_with (go_quiet (fail))
     go_roundg (n - (i + 1))
     case measure => have := HG.out; omega
     case rel => exact ⟨i + 1, by omega, rfl, by go_num, ⟨_, rfl⟩, hid (by rw [← HI'.out]; simp only [List.cons.injEq, HXY.out, true_and])⟩
    ·have hq := Z9E hxy
     have HXY := hid hxy
     clear hxy
     go_wp2_with (go_quiet (fail))
     go_ret
     exact ⟨Z0f (by rw [← HI'.out]; exact (decide_eq_false fun e => HXY.out (List.cons.inj e).1).symm), _, World.drewN_drewN _ _ _⟩
   ·go_wp2_with (fail)
    go_ret
    exact ⟨Z0f (by rw [← HI.out, List.drop_eq_nil_of_le (by have := N.out; omega), List.drop_eq_nil_of_le (by have := M.out; omega)]; rfl), _, rfl⟩
 ·have hne : ((n : Int) == m) = false := beq_eq_false_iff_ne.2 hnm
  go_enter Tryz.func192, Tryz.ntmps192
  go_wp2_with (fail)
  go_ret
  refine ⟨Z0f ?_, 0, rfl⟩
  rw [← HR.out]
  refine (decide_eq_false fun e => ?_).symm
  have h3 := N.out
  have h4 := M.out
  rw [e] at h3
  omega
theorem Z4s (A B : Option Addr) (n m c d : Nat) (l k : List At) (w : World) (hn : n = l.length) (hm : m = k.length) (h1 : RdAt w w.heap.size A l) (h2 : RdAt w w.heap.size B k) (hb : n ≤ 140737488355328) (hb2 : m ≤ 140737488355328) :
 Calls Tryz.prog 141 #[.slice A n c, .slice B m d] w (Z7V (.bool (decide (l = k))) w) := by
 have N := hid hn
 have M := hid hm
 clear hn hm
 go_enter Tryz.func141, Tryz.ntmps141
 go_wp2_with (go_at_call 192; refine (Y03 A B n m c d l k _ N.out M.out h1 h2 hb hb2).mono ?_; rintro e w' ⟨rfl, q, rfl⟩)
 go_ret
 exact ⟨rfl, _, rfl⟩
theorem Z4t (A : Option Addr) (n c : Nat) (l : List At) (w : World) (hn : n = l.length) (h : RdAt w w.heap.size A l) (hb : n ≤ 100000000) :
 Calls Tryz.prog 143 #[.slice A n c] w (Z83 l w) := by
 have N := hid hn
 clear hn
 go_enter Tryz.func143, Tryz.ntmps143
 go_wp2_with (go_at_call 187; refine Hid.out ?_)
 refine hid ?_
 refine (Z6e A n c l w N.out h hb).mono ?_
 rintro e w2 ⟨A2, c2, rfl, ho, hb2⟩
 generalize hq : l.length = q at *
 go_wp2_with (fail)
 go_ret
 exact ⟨A2, c2, by rw [hq]; rfl, by rw [hq]; exact ho, hb2⟩
theorem Z9W {l : List At} (h : Z1H l = true) (a : At) :
 Z1H (Z84 l a) = true ∧ (∀ k, lk At.key (Z84 l a) k = if a.key = k then some a else lk At.key l k) ∧ (Z84 l a).length ≤ l.length + 1 := by
 have hs := Z1c.1 h
 have hp : Srt Ch.key [(⟨a.key, false, a.v⟩ : Ch)] := (Z1P Ch.key).2 ⟨by simp, Srt.nil Ch.key⟩
 obtain ⟨h1, h2, _, h4⟩ := Z1Z hp hs
 refine ⟨Z1c.2 h1, fun k => ?_, by unfold Z84; simp at h4; omega⟩
 unfold Z84
 rw [h2 k, Z1b, Z9S]
 simp only
 split <;> simp [Z2P]
def stepB (b : List At) (x : At) : List At := if (getA b x.key).isSome = true then b else Z84 b x
def bP (l : List At) : List At := l.foldl stepB []
theorem Y2e {α : Type} {l : List α} {i : Nat} {a : α} (h : l[i]? = some a) : l.take (i + 1) = l.take i ++ [a] := by
 obtain ⟨hi, he⟩ := List.getElem?_eq_some_iff.1 h
 rw [List.take_succ_eq_append_getElem hi, he]
def Z1x (l : List Ky) (b : Bool) (p : List At) : List At := p.filter (fun c => Z1q l b c.key)
theorem Y2f {l : List Ky} {id : Int} (h : (Z0N l id).isSome = true) : Z1q l true id = !Z1q l false id := by
 unfold Z1q
 cases hq : Z0N l id with
 | none => rw [hq] at h; cases h
 | some k => simp only; cases k.block <;> rfl
theorem Y2g {l : List Ky} {p : List At} (ht : ∀ a ∈ p, Z1u l a = true) : (Z1x l false p).length + (Z1x l true p).length = p.length := by
 induction p with
 | nil => rfl
 | cons c p ih =>
   have h1 := ih (fun a ha => ht a (List.mem_cons_of_mem _ ha))
   have h3 := Y2f (Z8e (ht c (by simp)))
   unfold Z1x at *
   rw [List.filter_cons, List.filter_cons]
   cases h4 : Z1q l false c.key <;> rw [h4] at h3 <;> simp [h3] <;> omega
theorem Z85 (s b1 b2 : Nat) (l : List Ky) (b : Bool) (x1 x2 x3 x4 : Int) (x5 : ByteArray) (w : World) (hS : Sch w s l)
 (h1 : w.heap[b1]? = some (.cells #[.pointer (some ⟨s, 0, none⟩)] 26 (0, 0))) (h2 : w.heap[b2]? = some (.cells #[.bool b] 4 (0, 0))) :
 Calls Tryz.prog 188 #[.agg #[.int .i64 x1, .int .u8 x2, .int .i64 x3, .int .u64 x4, .string x5], .pointer (some ⟨b1, 0, none⟩), .pointer (some ⟨b2, 0, none⟩)] w fun e w' => e = .returned (.bool (!Z1q l b x1)) ∧ Below w.heap.size w w' := by
 have y0 := Z0b w (.cells #[.int .i64 x1, .int .u8 x2, .int .i64 x3, .int .u64 x4, .string x5] 43)
 have c1 := Z2B ((y0.block b1 (Z0c h1)).trans h1)
 have g2 := (y0.block b2 (Z0c h2)).trans h2
 have HS := hid (hS.ext y0)
 have G2 := hid g2
 clear g2 hS
 go_enter Tryz.func188, Tryz.ntmps188
 go_wp2_with (go_at_call 62; refine Hid.out ?_)
 refine hid ?_
 generalize hw0 : w.alloc _ = w0 at *
 clear hw0
 refine (Z4o s l x1 w0 HS.out).mono ?_
 rintro e w1 ⟨i, c, kd, d, g, q, ok, rfl, hk, hb, y1⟩
 have y2 := Z0b w1 (.cells #[.int .i64 i, .bool c, .int .u8 kd, .bool d, .bool g, .int .i64 q] 97)
 have g3 := (y1.block b2 (Z0c G2.out)).trans G2.out
 have c2 := Z2B ((y2.block b2 (Z0c g3)).trans g3)
 have yy := Z0a y0 (Z0a y1 y2)
 have HB := hid hb
 have HK := hid hk
 clear g3 hk hb
 cases ok with
 | false =>
   have HE : Hid (Z1q l b x1 = false) := hid (by
    have h := HB.out
    unfold Z1q
    cases hq : Z0N l x1 with
    | none => rfl
    | some k => rw [hq] at h; cases h)
   go_wp2_with (fail)
   go_ret
   exact ⟨Z0f (by rw [HE.out]; rfl), yy⟩
 | true =>
   have HE : Hid (Z1q l b x1 = (c == b)) := hid (by
    have h := HB.out
    have h2 := HK.out
    unfold Z1q
    cases hq : Z0N l x1 with
    | none => rw [hq] at h; cases h
    | some k => rw [hq] at h2; simp at h2; subst h2; rfl)
   go_wp2_with (fail)
   go_ret
   exact ⟨Z0f (by rw [HE.out] <;> (cases c <;> cases b <;> rfl)), yy⟩
theorem Z8f (s : Nat) (l : List Ky) (b : Bool) (A : Option Addr) (n c : Nat) (p : List At) (w : World) (hn : n = p.length) (h : RdAt w w.heap.size A p) (hb : n ≤ 100000000) (hS : Sch w s l) :
 Calls Tryz.prog 134 #[.pointer (some ⟨s, 0, none⟩), .slice A n c, .bool b] w (Z83 (Z1x l b p) w) := by
 have N := hid hn
 have ya := Z0b w (.cells #[.pointer (some ⟨s, 0, none⟩)] 26)
 have yb := Z0b (w.alloc (.cells #[.pointer (some ⟨s, 0, none⟩)] 26)) (.cells #[.bool b] 4)
 have g1 := heap_alloc_new w (.cells #[.pointer (some ⟨s, 0, none⟩)] 26)
 have g2 := heap_alloc_new (w.alloc (.cells #[.pointer (some ⟨s, 0, none⟩)] 26)) (.cells #[.bool b] 4)
 have G1 := hid ((yb.block w.heap.size (by simp)).trans g1)
 rw [World.size_alloc] at g2
 have G2 := hid g2
 have y := Z0a ya yb
 have hh := h.ext y
 have HS := hid (hS.ext y)
 clear hn g1 g2 ya yb h hS
 go_enter Tryz.func134, Tryz.ntmps134
 go_wp2_with (go_at_call 187; refine Hid.out ?_)
 refine hid ?_
 refine (Z6e A n c p _ N.out hh hb).mono ?_
 rintro e w1 ⟨A', c', rfl, hown, y1⟩
 have HOW := hid hown
 have hsz2 : ((w.alloc (.cells #[.pointer (some ⟨s, 0, none⟩)] 26)).alloc (.cells #[.bool b] 4)).heap.size = w.heap.size + 2 := by simp
 have G1' := hid ((y1.block w.heap.size (by rw [hsz2]; omega)).trans G1.out)
 have G2' := hid ((y1.block (w.heap.size + 1) (by rw [hsz2]; omega)).trans G2.out)
 have hb1 : w.heap.size + 2 ≤ w1.heap.size := by have := y1.size; omega
 have HSZ := hid hsz2
 clear hown hsz2
 go_wp2_with (go_at_call 186; refine Hid.out ?_)
 refine hid ?_
 refine (Z6d w.heap.size (w.heap.size + 1) (fun c => !Z1q l b c.key) A' p.length c' _ p w1 HOW.out (by rw [HSZ.out]; exact hb1) (by have := N.out; omega) rfl ?cl).mono ?_
 case cl =>
  intro x1 x2 x3 x4 x5 w' hb'
  refine Z85 s _ _ l b x1 x2 x3 x4 x5 w' (HS.out.ext (y1.trans hb')) ?_ ?_
  ·exact (hb'.block _ (by rw [HSZ.out]; omega)).trans G1'.out
  ·exact (hb'.block _ (by rw [HSZ.out]; omega)).trans G2'.out
 rintro e w2 ⟨A2, c2, rfl, hown2, y2⟩
 have yy : Below w.heap.size w w2 := Z0a y (y1.trans y2)
 have hf : p.filter (fun x => !!Z1q l b x.key) = Z1x l b p := by simp [Z1x]
 rw [hf] at hown2 ⊢
 have HO2 := hid (hown2.base_le (B := w.heap.size) (by rw [HSZ.out]; omega))
 clear hown2 hf
 go_wp2_with (fail)
 go_ret
 exact ⟨A2, c2, rfl, HO2.out, yy⟩
def Z1F (l : List Ky) (o : Opd) : Bool :=
 if o.k = 2 ∧ 0 < o.s.length then
  !((decide (0 < (Z1x l true o.s).length) || decide (0 < nlR o.r)) && (decide ((Z1x l true o.s).length < o.s.length) || decide (nlR o.r < o.r.length)))
 else true
def Z1G (l : List Ky) (x : List OpS) : Bool := x.all (fun o => Z1F l o.o)
theorem Z6W {l : List Ky} {x : List OpS} {m : Nat} {o : OpS} {R : Bool} (hd : x.drop m = o :: x.drop (m + 1)) (h : Z1G l (x.drop m) = R) : (Z1F l o.o && Z1G l (x.drop (m + 1))) = R := by
 rw [hd] at h; exact h
theorem Z86 (sc : Nat) (l : List Ky) (A : Option Addr) (n c : Nat) (x : List OpS) (w : World) (hn : n = x.length) (h : RdOp w w.heap.size A x) (hb : n ≤ 140737488355328) (hS : Sch w sc l) (ho : ∀ o ∈ x, okOp o.o) :
 Calls Tryz.prog 163 #[.pointer (some ⟨sc, 0, none⟩), .slice A n c] w fun e w' => e = .returned (.bool (Z1G l x)) ∧ Below w.heap.size w w' := by
 have N := hid hn
 generalize hR : Z1G l x = R
 have HR := hid hR
 clear hn hR
 go_enter Tryz.func163, Tryz.ntmps163
 go_wp2_with (fail)
 go_loopg [11] n (fun g iv wr => ∃ (m : Nat), m ≤ n ∧ g = n - m ∧ iv = .int .i64 (m : Int) ∧ Below w.heap.size w wr ∧ Hid (Z1G l (x.drop m) = R))
 case atStart => exact ⟨0, by omega, rfl, rfl, Below.refl _ _, hid (by rw [List.drop_zero]; exact HR.out)⟩
 case round =>
  obtain ⟨m, hm, hg, rfl, y, HI⟩ := hrel
  have HG := hid hg
  clear hg HR
  by_cases hlt : m < n
  ·have hl1 : m < x.length := by have := N.out; omega
   obtain ⟨ad, o, had0, had, hd1, hx1, hc0⟩ := (h.1.below y (Nat.le_refl _)).el hl1
   subst had0
   have hmem := List.mem_of_getElem? hx1
   obtain ⟨q1, q2, q3, q4, q5⟩ := ho o hmem
   obtain ⟨g1, g2, g3⟩ := h.2 o hmem
   have HI2 := hid (Z6W hd1 HI.out)
   obtain ⟨⟨k, nn, r, s, p⟩, Ar, cr, As, cs, Ap, cp⟩ := o
   obtain ⟨r0, r1, r2, r3, r4⟩ := Z0o hc0
   simp only at g1 g2 g3 q3 q4 q5
   have y2 := Z0a y (Z0b wr (.cells #[.int .u8 k, .int .i64 nn, .slice Ar r.length cr, .slice As s.length cs, .slice Ap p.length cp] 50))
   have hbx := heap_alloc_new wr (.cells #[.int .u8 k, .int .i64 nn, .slice Ar r.length cr, .slice As s.length cs, .slice Ap p.length cp] 50)
   have hw2 : IntKind.i64.wrap ((m:Int) + 1) = (m : Int) + 1 := IntWalk.i64_in _ (by omega)
   have HBX := hid hbx
   clear hc0 hd1 hx1 hmem HI hbx
   by_cases hk : k = 2
   ·subst hk
    by_cases hs : s.length = 0
    ·have hs0 : ((s.length : Int) == 0) = true := by rw [hs]; rfl
     have HP : Hid (Z1F l ⟨2, nn, r, s, p⟩ = true) := hid (by unfold Z1F; rw [if_neg (by simp only; omega)])
     clear hs
     go_wp2_with (fail)
     go_roundg (n - (m + 1))
     case measure => have := HG.out; omega
     case rel => exact ⟨m + 1, by omega, rfl, by go_num, y2, hid (by rw [← HI2.out, HP.out, Bool.true_and])⟩
    ·have hs0 : ((s.length : Int) == 0) = false := beq_eq_false_iff_ne.2 (fun e => hs (by omega))
     obtain ⟨ns, hns⟩ : ∃ X, s.length = X := ⟨_, rfl⟩
     obtain ⟨nr, hnr⟩ : ∃ X, r.length = X := ⟨_, rfl⟩
     obtain ⟨np, hnp⟩ : ∃ X, p.length = X := ⟨_, rfl⟩
     have NS := hid hns
     have NR := hid hnr
     rw [hns] at r3 hs hs0 q4
     rw [hnr] at r2 q3
     rw [hnp] at r4
     rw [hns, hnr, hnp] at y2
     have HBX2 := HBX.out
     rw [hns, hnr, hnp] at HBX2
     have HBX := hid HBX2
     clear hns hnr hnp HBX2
     go_wp2_with (fail)
     obtain ⟨B, hB⟩ : ∃ X, wr.heap.size = X := ⟨_, rfl⟩
     rw [hB] at HBX ⊢
     generalize wr.alloc (.cells #[.int .u8 2, .int .i64 nn, .slice Ar nr cr, .slice As ns cs, .slice Ap np cp] 50) = w5 at *
     have hS5 := hS.ext y2
     have ha5 := g2.ext y2
     have hr5 := g1.ext y2
     obtain ⟨c0, c1, c2, c3, c4⟩ := Z0L HBX.out
     have hBl := Z0c HBX.out
     have yd : Below w5.heap.size w5 w5.drew := (Below.refl _ _).drew
     have hS6 := hS5.ext yd
     have ha6 := ha5.ext yd
     have hr6 := hr5.ext yd
     have HBX6 := hid ((yd.block B hBl).trans HBX.out)
     have hBl6 := Z0c HBX6.out
     clear r0 r1 r2 r3 r4 c0 c1 c4
     go_region_held3 (fun w' => w'.cell? ⟨B, 2, none⟩ = some (.slice Ar nr cr) ∧ w'.cell? ⟨B, 3, none⟩ = some (.slice As ns cs))
      (go_keep) (first
       | (go_at_call 134
          with_reducible refine (Z8f sc l true As ns cs s w5.drew NS.out.symm ha6 q4 hS6).mono ?_
          rintro e w6 ⟨A2, c2', rfl, ho2, y6⟩
          obtain ⟨f0, f1, f2, f3, f4⟩ := Z0L ((y6.block B hBl6).trans HBX6.out))
       | (go_at_call 209
          with_reducible refine (Z5l Ar nr cr r w5.drew NR.out.symm hr6 (by omega)).mono ?_
          rintro e w6 ⟨rfl, rfl⟩)
       | (go_at_call 209
          with_reducible refine (Z5l Ar nr cr r w6 NR.out.symm (hr6.ext y6) (by omega)).mono ?_
          rintro e w7 ⟨rfl, rfl⟩))
     all_goals
      have yy := Z0a y2 (Z0a yd y6)
      have HV : Hid (Z1F l ⟨2, nn, r, s, p⟩ = !((decide (0 < (Z1x l true s).length) || decide (0 < nlR r)) && (decide ((Z1x l true s).length < ns) || decide (nlR r < nr)))) := hid (by
       unfold Z1F
       rw [if_pos (show (2 : Int) = 2 ∧ 0 < s.length from ⟨rfl, by have := NS.out; omega⟩)]
       simp only [NS.out, NR.out])
      generalize (Z1x l true s).length = nb at *
      generalize nlR r = nl at *
      clear ho2 f0 f1 f4
      by_cases t1 : (0 : Int) < (nb : Int)
      ·have t1' : 0 < nb := by omega
       by_cases t3 : (nb : Int) < (ns : Int)
       ·have t3' : nb < ns := by omega
        go_wp2_with (fail)
        go_ret
        exact ⟨Z0f (by rw [← HI2.out, HV.out]; simp [t1', t3']), yy⟩
       by_cases t4 : (nl : Int) < (nr : Int)
       ·have t4' : nl < nr := by omega
        go_wp2_with (fail)
        go_ret
        exact ⟨Z0f (by rw [← HI2.out, HV.out]; simp [t1', t4']), yy⟩
       have t3' : ¬ nb < ns := by omega
       have t4' : ¬ nl < nr := by omega
       go_wp2_with (fail)
       go_roundg (n - (m + 1))
       case measure => have := HG.out; omega
       case rel => exact ⟨m + 1, by omega, rfl, by go_num, yy, hid (by rw [← HI2.out, HV.out]; simp [t3', t4'])⟩
      by_cases t2 : (0 : Int) < (nl : Int)
      ·have t2' : 0 < nl := by omega
       have t3 : (nb : Int) < (ns : Int) := by omega
       have t3' : nb < ns := by omega
       go_wp2_with (fail)
       go_ret
       exact ⟨Z0f (by rw [← HI2.out, HV.out]; simp [t2', t3']), yy⟩
      have t1' : nb = 0 := by omega
      have t2' : nl = 0 := by omega
      go_wp2_with (fail)
      go_roundg (n - (m + 1))
      case measure => have := HG.out; omega
      case rel => exact ⟨m + 1, by omega, rfl, by go_num, yy, hid (by rw [← HI2.out, HV.out]; simp [t1', t2'])⟩
   ·have hb2 : (k == 2) = false := beq_eq_false_iff_ne.2 hk
    have HP : Hid (Z1F l ⟨k, nn, r, s, p⟩ = true) := hid (by unfold Z1F; rw [if_neg (by simp only; omega)])
    clear hk
    go_wp2_with (fail)
    go_roundg (n - (m + 1))
    case measure => have := HG.out; omega
    case rel => exact ⟨m + 1, by omega, rfl, by go_num, y2, hid (by rw [← HI2.out, HP.out, Bool.true_and])⟩
  ·go_wp2_with (fail)
   go_ret
   refine ⟨Z0f ?_, y⟩
   rw [← HI.out, List.drop_eq_nil_of_le (by have := N.out; omega)]
   rfl
def Z4a (n : Int) (x : List OpS) : Int := IntKind.i64.wrap (IntKind.i64.wrap (n - Z0Z x) + Z1i x)
def Z2E (l : List Ky) (x : List OpS) (n most : Int) : Int :=
 if ¬ mayO l x = 0 then mayO l x
 else if n < 1 ∨ most < n ∨ n < Z0Z x then 5
 else if Z2t n x = false then 6
 else if Z1G l x = false then 7
 else if most < Z4a n x then 8 else 0
theorem Y2h (sc : Nat) (l : List Ky) (A : Option Addr) (n c : Nat) (x : List OpS) (lim most : Int) (w : World) (hn : n = x.length) (h : RdOp w w.heap.size A x) (hb : n ≤ 140737488355328) (hS : Sch w sc l) (ho : ∀ o ∈ x, okOp o.o) (hT : Utf8Tabs 1 2 w) :
 Calls Tryz.prog 89 #[.pointer (some ⟨sc, 0, none⟩), .slice A n c, .int .i64 lim, .int .i64 most] w fun e w' => e = .returned (.int .i64 (Z2E l x lim most)) ∧ Below w.heap.size w w' := by
 have N := hid hn
 obtain ⟨R, hR⟩ : ∃ X, Z2E l x lim most = X := ⟨_, rfl⟩
 rw [hR]
 unfold Z2E at hR
 have HR := hid hR
 clear hn hR
 have y := Below.refl w.heap.size w
 go_enter Tryz.func89, Tryz.ntmps89
 go_wp2_with (go_at_call 88; refine Hid.out ?_)
 refine hid ?_
 refine (Z3O sc l A n c x w N.out h hb hS ho hT).mono ?_
 rintro e w1 ⟨rfl, y1⟩
 replace y := Z0a y y1
 clear y1
 generalize mayO l x = E at HR ⊢
 by_cases hE : E = 0
 rotate_left
 ·have hne : (E == 0) = false := beq_eq_false_iff_ne.2 hE
  have HE : Hid (E = R) := hid (by rw [← HR.out, if_pos hE])
  clear hE
  go_wp2_with (fail)
  go_ret
  exact ⟨Z0r HE.out, y⟩
 subst hE
 have HR2 : Hid ((if lim < 1 ∨ most < lim ∨ lim < Z0Z x then 5 else if Z2t lim x = false then 6 else if Z1G l x = false then 7 else if most < Z4a lim x then 8 else 0) = R) := hid (by rw [← HR.out, if_neg (show ¬ ¬ ((0 : Int) = 0) by simp)])
 clear HR
 by_cases h1 : lim < 1
 ·go_wp2_with (fail)
  go_ret
  exact ⟨Z0r (by rw [← HR2.out, if_pos (.inl h1)]), y⟩
 by_cases h2 : most < lim
 ·go_wp2_with (fail)
  go_ret
  exact ⟨Z0r (by rw [← HR2.out, if_pos (.inr (.inl h2))]), y⟩
 go_wp2_with (go_at_call 104; refine Hid.out ?_)
 refine hid ?_
 refine (Z4q A n c x _ N.out (h.ext y).1 hb).mono ?_
 rintro e w2 ⟨rfl, y1⟩
 replace y := Z0a y y1
 clear y1
 obtain ⟨T, hT'⟩ : ∃ X, Z0Z x = X := ⟨_, rfl⟩
 rw [hT'] at HR2 ⊢
 have HTK := hid hT'
 clear hT'
 by_cases h3 : lim < T
 ·go_wp2_with (fail)
  go_ret
  exact ⟨Z0r (by rw [← HR2.out, if_pos (.inr (.inr h3))]), y⟩
 have HR3 : Hid ((if Z2t lim x = false then 6 else if Z1G l x = false then 7 else if most < Z4a lim x then 8 else 0) = R) := hid (by rw [← HR2.out, if_neg (show ¬ (lim < 1 ∨ most < lim ∨ lim < T) by omega)])
 clear HR2
 go_wp2_with (go_at_call 162; refine Hid.out ?_)
 refine hid ?_
 refine (Y1R A n c x lim _ N.out (h.ext y).1 hb).mono ?_
 rintro e w3 ⟨rfl, y1⟩
 replace y := Z0a y y1
 clear y1
 generalize Z2t lim x = F at HR3 ⊢
 cases F with
 | false =>
   go_wp2_with (fail)
   go_ret
   exact ⟨Z0r (by rw [← HR3.out]; simp), y⟩
 | true =>
   have HR4 : Hid ((if Z1G l x = false then 7 else if most < Z4a lim x then 8 else 0) = R) := hid (by rw [← HR3.out, if_neg (show ¬ (true = false) by simp)])
   clear HR3
   go_wp2_with (go_at_call 163; refine Hid.out ?_)
   refine hid ?_
   refine (Z86 sc l A n c x _ N.out (h.ext y) hb (hS.ext y) ho).mono ?_
   rintro e w4 ⟨rfl, y1⟩
   replace y := Z0a y y1
   clear y1
   generalize Z1G l x = G at HR4 ⊢
   cases G with
   | false =>
     go_wp2_with (fail)
     go_ret
     exact ⟨Z0r (by rw [← HR4.out]; simp), y⟩
   | true =>
     have HR5 : Hid ((if most < Z4a lim x then 8 else 0) = R) := hid (by rw [← HR4.out, if_neg (show ¬ (true = false) by simp)])
     clear HR4
     go_wp2_with (go_at_call 104; refine Hid.out ?_)
     refine hid ?_
     refine (Z4q A n c x _ N.out (h.ext y).1 hb).mono ?_
     rintro e w5 ⟨rfl, y1⟩
     replace y := Z0a y y1
     clear y1
     rw [HTK.out]
     obtain ⟨D, hD⟩ : ∃ D, IntKind.i64.wrap (lim - T) = D := ⟨_, rfl⟩
     go_wp2_with (go_at_call 105; refine Hid.out ?_)
     refine hid ?_
     refine (Z51 A n c x _ N.out (h.ext y).1 hb).mono ?_
     rintro e w6 ⟨rfl, y1⟩
     replace y := Z0a y y1
     clear y1
     obtain ⟨U, hU⟩ : ∃ X, Z1i x = X := ⟨_, rfl⟩
     rw [hU]
     obtain ⟨G, hG⟩ : ∃ G, IntKind.i64.wrap (D + U) = G := ⟨_, rfl⟩
     have HLO : Hid (Z4a lim x = G) := hid (by unfold Z4a; rw [HTK.out, hD, hU, hG])
     clear hU
     by_cases h5 : most < G
     ·go_wp2_with (fail)
      go_ret
      exact ⟨Z0r (by rw [← HR5.out, HLO.out, if_pos h5]), y⟩
     ·go_wp2_with (fail)
      go_ret
      exact ⟨Z0r (by rw [← HR5.out, HLO.out, if_neg (show ¬ most < G by omega)]), y⟩
end Go.Proofs.YtfnkjcodcoehcaaGreatDoor
