/- Merged texts: RefPatLaw, Ref06W, FitsClass, RefMay05, RowF, OfLaw. -/
import Derived.Test.YtfnkjcodcoehcaaGreatDoorS27
import Derived.Test.YtfnkjcodcoehcaaGreatDoorS10
import Derived.Deep.RegionHeld3
import Derived.Test.YtfnkjcodcoehcaaGreatDoorS8
import Derived.Test.YtfnkjcodcoehcaaGreatDoorS24
import Derived.Test.YtfnkjcodcoehcaaGreatDoorS11
import Derived.Test.YtfnkjcodcoehcaaGreatDoorS13
import Derived.Test.YtfnkjcodcoehcaaGreatDoorS17
import Derived.Test.YtfnkjcodcoehcaaGreatDoorS26
namespace Go.Proofs.YtfnkjcodcoehcaaGreatDoor
open Go.RowKit
set_option linter.unusedVariables false
set_option linter.unusedSimpArgs false

/-- one change done to a set -/
def apply1 (o : List At) (c : Ch) : List At := if c.gone = true then o.filter (fun a => !(a.key == c.key)) else with05P o ⟨c.key, c.v⟩
/-- what the document's Apply of patches answers -/
def applyR (p : List Ch) (s : List At) : List At := p.foldl apply1 s
theorem filt_all {l : List At} (h : riseA l = true) (c : Int) :
    riseA (l.filter (fun a => !(a.key == c))) = true ∧ (∀ k, lk At.key (l.filter (fun a => !(a.key == c))) k = if c = k then none else lk At.key l k) := by
  have hs := riseA_srt.1 h
  refine ⟨riseA_srt.2 (hs.filter At.key _), fun k => ?_⟩
  rw [lk_filter At.key hs]
  cases hl : lk At.key l k with
  | none => simp
  | some a =>
    have := lk_key At.key hl
    by_cases hc : c = k
    · simp [hc, Option.filter, this]
    · have : ¬ a.key = c := by omega
      simp [hc, Option.filter, this]
theorem apply1_all {o : List At} (ho : riseA o = true) (c : Ch) : riseA (apply1 o c) = true ∧ ∀ k, lk At.key (apply1 o c) k = if c.key = k then lkApply (some c) (lk At.key o k) else lk At.key o k := by
  unfold apply1
  by_cases hg : c.gone = true
  · rw [if_pos hg]
    obtain ⟨h1, h2⟩ := filt_all ho c.key
    refine ⟨h1, fun k => ?_⟩
    rw [h2 k]
    split
    · simp [lkApply, hg]
    · rfl
  · rw [if_neg hg, with05_is ho]
    obtain ⟨h1, h2, _⟩ := with_all ho ⟨c.key, c.v⟩
    refine ⟨h1, fun k => ?_⟩
    rw [h2 k]
    simp [lkApply, hg]
theorem applyR_all : ∀ {p : List Ch}, Srt Ch.key p → ∀ {s : List At}, riseA s = true → riseA (applyR p s) = true ∧ ∀ k, lk At.key (applyR p s) k = lkApply (lk Ch.key p k) (lk At.key s k)
  | [], _, s, hs => ⟨hs, fun k => rfl⟩
  | c :: p, hp, s, hs => by
    obtain ⟨h1, h2⟩ := (srt_cons Ch.key).1 hp
    obtain ⟨a1, a2⟩ := apply1_all hs c
    obtain ⟨b1, b2⟩ := applyR_all h2 a1
    have e : applyR (c :: p) s = applyR p (apply1 s c) := rfl
    rw [e]
    refine ⟨b1, fun k => ?_⟩
    rw [b2 k, a2 k, lk_cons]
    by_cases hk : c.key = k
    · rw [if_pos hk, if_pos hk, lk_none Ch.key (fun d hd => by have := h1 d hd; omega)]
      rfl
    · rw [if_neg hk, if_neg hk]
theorem applyR_is {p : List Ch} {s : List At} (hp : riseC p = true) (hs : riseA s = true) : applyR p s = applyP p s := by
  obtain ⟨a1, a2⟩ := applyR_all (riseC_srt.1 hp) hs
  obtain ⟨b1, b2, _⟩ := apply_all (riseC_srt.1 hp) (riseA_srt.1 hs)
  exact lk_ext At.key (riseA_srt.1 a1) b1 fun k => by rw [a2 k, b2 k]
theorem apply1_len (o : List At) (c : Ch) : (apply1 o c).length ≤ o.length + 1 := by
  unfold apply1
  split
  · exact Nat.le_succ_of_le (List.length_filter_le _ _)
  · exact with05_len _ _
/-- what the document's Compose of patches answers -/
def compR (p q : List Ch) : List Ch := q.foldl (fun o c => putF c o) p
theorem compR_all : ∀ {q : List Ch}, Srt Ch.key q → ∀ {p : List Ch}, Srt Ch.key p → Srt Ch.key (compR p q) ∧ ∀ k, lk Ch.key (compR p q) k = (lk Ch.key q k).or (lk Ch.key p k)
  | [], _, p, hp => ⟨hp, fun k => rfl⟩
  | c :: q, hq, p, hp => by
    obtain ⟨h1, h2⟩ := (srt_cons Ch.key).1 hq
    obtain ⟨a1, a2, _⟩ := putF_all hp c
    obtain ⟨b1, b2⟩ := compR_all h2 a1
    have e : compR p (c :: q) = compR (putF c p) q := rfl
    rw [e]
    refine ⟨b1, fun k => ?_⟩
    rw [b2 k, a2 k, lk_cons]
    by_cases hk : c.key = k
    · rw [if_pos hk, if_pos hk, lk_none Ch.key (fun d hd => by have := h1 d hd; omega)]
      rfl
    · rw [if_neg hk, if_neg hk]
theorem compR_is {p q : List Ch} (hp : riseC p = true) (hq : riseC q = true) : compR p q = composeP p q := by
  obtain ⟨a1, a2⟩ := compR_all (riseC_srt.1 hq) (riseC_srt.1 hp)
  obtain ⟨b1, b2, _⟩ := compose_all (riseC_srt.1 hq) (riseC_srt.1 hp)
  exact lk_ext Ch.key a1 b1 fun k => by rw [a2 k, b2 k]
end Go.Proofs.YtfnkjcodcoehcaaGreatDoor
namespace Go.Proofs.YtfnkjcodcoehcaaGreatDoor
open Go.RowKit
set_option linter.unusedVariables false
set_option linter.unusedSimpArgs false

set_option maxRecDepth 100000 in
set_option maxHeartbeats 3200000 in
theorem apply06_any (A B : Option Addr) (n c k d : Nat) (s : List At) (p : List Ch) (w : World) (hn : n = s.length) (hk : k = p.length) (h1 : RdAt w w.heap.size A s) (h2 : RdCh w w.heap.size B p) (hb : n ≤ 1000000) (hb2 : k ≤ 1000000) :
    Calls Tryz.prog 95 #[.slice A n c, .slice B k d] w (NewAt (applyR p s) w) := by
  have N := Lib.hid hn
  have K := Lib.hid hk
  have H1 := Lib.hid h1
  have H2 := Lib.hid h2
  obtain ⟨R, hR⟩ : ∃ X, applyR p s = X := ⟨_, rfl⟩
  have HR := Lib.hid hR
  rw [hR]
  clear hn hk h1 h2 hR
  go_enter Tryz.func95, Tryz.ntmps95
  go_wp2_with ((at_builtin; refine app_at (l := []) (m := s) rfl (.tmp 7) (.tmp 8) rfl rfl (by exact Ow.empty _ w.heap.size _) _ _ _ _ rfl N.out (by exact H1.out.ext (ext_alloc w _)) (by have := N.out; simp only [List.length_nil]; omega) (by simp) ?_; intro v1 w1 ho1 g1 hv1))
  rw [List.nil_append] at ho1
  have O1 := Lib.hid ho1
  have Y1 : Hid (Below w.heap.size w w1) := Lib.hid ((ext_alloc w _).grown g1 (by simp) (fun k hk => by cases hk))
  clear ho1 g1 hv1
  go_wp2_with (fail)
  go_loopg [5, 6] k (fun g ov iv wr => ∃ (m : Nat) (r : List At), m ≤ k ∧ g = k - m ∧ iv = .int .i64 (m : Int) ∧ OwAt wr w.heap.size ov r ∧ r.length ≤ n + m ∧ Below w.heap.size w wr ∧ Hid (applyR (p.drop m) r = R))
  case atStart => exact ⟨0, s, Nat.zero_le _, rfl, rfl, O1.out, by have := N.out; omega, Y1.out, Lib.hid (by rw [List.drop_zero]; exact HR.out)⟩
  case round =>
    obtain ⟨m, r, hm, hg, rfl, hown, hrl, y, HI⟩ := hrel
    have HG := Lib.hid hg
    clear hg HR O1 Y1
    by_cases hlt : m < k
    · have hlt' : (m : Int) < (k : Int) := by omega
      obtain ⟨ad, x, rfl, hd1, hx1, hc0⟩ := (H2.out.ext y).elIn (i := m) (by have := K.out; omega)
      have hst := HI.out
      rw [hd1] at hst
      obtain ⟨x1, x6, x2, x3, x4, x5⟩ := x
      have CX := Lib.hid hc0
      have HST : Hid (applyR (p.drop (m + 1)) (apply1 r ⟨x1, x6, ⟨x2, x3, x4, x5⟩⟩) = R) := Lib.hid hst
      have HL : Hid ((apply1 r ⟨x1, x6, ⟨x2, x3, x4, x5⟩⟩).length ≤ n + (m + 1)) := Lib.hid (by have := apply1_len r ⟨x1, x6, ⟨x2, x3, x4, x5⟩⟩; omega)
      have hw2 : IntKind.i64.wrap ((m:Int) + 1) = (m : Int) + 1 := IntWalk.i64_in _ (by omega)
      obtain ⟨A1, c1, rfl, _, _⟩ := hown.form
      have RR := Lib.hid (hown.rd At.enc_len)
      have YS := Lib.hid y.size
      have LB : Hid (r.length ≤ 2000000) := Lib.hid (by omega)
      clear hst hc0 hd1 hx1 HI hown
      obtain ⟨r0, r1, r2, r3, r4, r5⟩ := ch_cells CX.out.2
      cases x6 with
      | true =>
        have HE : Hid (apply1 r ⟨x1, true, ⟨x2, x3, x4, x5⟩⟩ = r.filter (fun a => !(a.key == x1))) := Lib.hid rfl
        go_wp2_with (go_at_call 64; refine Hid.out ?_)
        refine Lib.hid ?_
        refine (without05_any x1 A1 r.length c1 r _ rfl RR.out (by have := LB.out; omega)).mono ?_
        rw [← HE.out]
        rintro e w3 ⟨A3, c3, rfl, o3, y3⟩
        have O3 := Lib.hid (o3.base_le (B := w.heap.size) YS.out)
        have Y3 := Lib.hid (ext_trans y y3)
        clear o3 y3
        go_wp2_with (fail)
        go_roundg (k - (m + 1))
        case measure => have := HG.out; omega
        case rel => exact ⟨m + 1, _, by omega, rfl, by go_num, O3.out, HL.out, Y3.out, HST⟩
      | false =>
        have HE : Hid (apply1 r ⟨x1, false, ⟨x2, x3, x4, x5⟩⟩ = with05P r ⟨x1, ⟨x2, x3, x4, x5⟩⟩) := Lib.hid rfl
        go_wp2_with (fail)
        go_region_held3 (fun w' => w'.cell? (ad.add (m * 6)) = some (.int .i64 x1) ∧ w'.cell? { block := (ad.add (m * 6)).block, off := (ad.add (m * 6)).off + 2 } = some (.int .u8 x2) ∧ w'.cell? { block := (ad.add (m * 6)).block, off := (ad.add (m * 6)).off + 3 } = some (.int .i64 x3) ∧ w'.cell? { block := (ad.add (m * 6)).block, off := (ad.add (m * 6)).off + 4 } = some (.int .u64 x4) ∧ w'.cell? { block := (ad.add (m * 6)).block, off := (ad.add (m * 6)).off + 5 } = some (.string x5)) (go_keep) (first
          | (go_at_call 170
             with_reducible refine (with05_any A1 r.length c1 r x1 x2 x3 x4 x5 wr.drew rfl (RR.out.ext (up_drew (Below.refl _ _))) (by have := LB.out; omega)).mono ?_
             rw [← HE.out]
             rintro e w3 ⟨A3, c3, rfl, o3, y3⟩
             have O3 := Lib.hid (o3.base_le (B := w.heap.size) YS.out)
             have Y3 := Lib.hid (ext_trans y (ext_trans (up_drew (Below.refl _ _)) y3))
             obtain ⟨q0, q1, q2, q3, q4, q5⟩ := ch_cells (CX.out.ext (ext_trans (up_drew (Below.refl _ _)) y3)).2
             clear o3 y3))
        go_wp2_with (fail)
        go_roundg (k - (m + 1))
        case measure => have := HG.out; omega
        case rel => exact ⟨m + 1, _, by omega, rfl, by go_num, O3.out, HL.out, Y3.out, HST⟩
    · have hlt' : ¬ (m : Int) < (k : Int) := by omega
      have hR : r = R := by
        have h := HI.out
        rw [List.drop_eq_nil_of_le (by have := K.out; omega)] at h
        exact h
      subst hR
      obtain ⟨A', c', rfl, _, _⟩ := hown.form
      have HOW := Lib.hid hown
      clear hown
      go_wp2_with (fail)
      go_ret
      exact ⟨A', c', rfl, HOW.out, y⟩
set_option maxRecDepth 100000 in
set_option maxHeartbeats 3200000 in
theorem comp06_any (A B : Option Addr) (n c k d : Nat) (s p : List Ch) (w : World) (hn : n = s.length) (hk : k = p.length) (h1 : RdCh w w.heap.size A s) (h2 : RdCh w w.heap.size B p) (hb : n ≤ 1000000) (hb2 : k ≤ 1000000) :
    Calls Tryz.prog 113 #[.slice A n c, .slice B k d] w (NewCh (compR s p) w) := by
  have N := Lib.hid hn
  have K := Lib.hid hk
  have H1 := Lib.hid h1
  have H2 := Lib.hid h2
  obtain ⟨R, hR⟩ : ∃ X, compR s p = X := ⟨_, rfl⟩
  have HR := Lib.hid hR
  rw [hR]
  clear hn hk h1 h2 hR
  go_enter Tryz.func113, Tryz.ntmps113
  go_wp2_with ((at_builtin; refine app_ch (l := []) (m := s) rfl (.tmp 7) (.tmp 8) rfl rfl (by exact Ow.empty _ w.heap.size _) _ _ _ _ rfl N.out (by exact H1.out.ext (ext_alloc w _)) (by have := N.out; simp only [List.length_nil]; omega) (by simp) ?_; intro v1 w1 ho1 g1 hv1))
  rw [List.nil_append] at ho1
  have O1 := Lib.hid ho1
  have Y1 : Hid (Below w.heap.size w w1) := Lib.hid ((ext_alloc w _).grown g1 (by simp) (fun k hk => by cases hk))
  clear ho1 g1 hv1
  go_wp2_with (fail)
  go_loopg [5, 6] k (fun g ov iv wr => ∃ (m : Nat) (r : List Ch), m ≤ k ∧ g = k - m ∧ iv = .int .i64 (m : Int) ∧ OwCh wr w.heap.size ov r ∧ r.length ≤ n + m ∧ Below w.heap.size w wr ∧ Hid (compR r (p.drop m) = R))
  case atStart => exact ⟨0, s, Nat.zero_le _, rfl, rfl, O1.out, by have := N.out; omega, Y1.out, Lib.hid (by rw [List.drop_zero]; exact HR.out)⟩
  case round =>
    obtain ⟨m, r, hm, hg, rfl, hown, hrl, y, HI⟩ := hrel
    have HG := Lib.hid hg
    clear hg HR O1 Y1
    by_cases hlt : m < k
    · have hlt' : (m : Int) < (k : Int) := by omega
      obtain ⟨ad, x, rfl, hd1, hx1, hc0⟩ := (H2.out.ext y).elIn (i := m) (by have := K.out; omega)
      have hst := HI.out
      rw [hd1] at hst
      obtain ⟨x1, x6, x2, x3, x4, x5⟩ := x
      have CX := Lib.hid hc0
      have HST : Hid (compR (putF ⟨x1, x6, ⟨x2, x3, x4, x5⟩⟩ r) (p.drop (m + 1)) = R) := Lib.hid hst
      have HL : Hid ((putF ⟨x1, x6, ⟨x2, x3, x4, x5⟩⟩ r).length ≤ n + (m + 1)) := Lib.hid (by have := putF_len ⟨x1, x6, ⟨x2, x3, x4, x5⟩⟩ r; omega)
      have hw2 : IntKind.i64.wrap ((m:Int) + 1) = (m : Int) + 1 := IntWalk.i64_in _ (by omega)
      obtain ⟨A1, c1, rfl, _, _⟩ := hown.form
      have RR := Lib.hid (hown.rd Ch.enc_len)
      have YS := Lib.hid y.size
      have LB : Hid (r.length ≤ 2000000) := Lib.hid (by omega)
      clear hst hc0 hd1 hx1 HI hown
      obtain ⟨r0, r1, r2, r3, r4, r5⟩ := ch_cells CX.out.2
      go_wp2_with (go_at_call 160; refine Hid.out ?_)
      refine Lib.hid ?_
      refine (put06_any A1 r.length c1 r x1 x6 x2 x3 x4 x5 _ rfl RR.out (by have := LB.out; omega)).mono ?_
      rintro e w3 ⟨A3, c3, rfl, o3, y3⟩
      have O3 := Lib.hid (o3.base_le (B := w.heap.size) YS.out)
      have Y3 := Lib.hid (ext_trans y y3)
      clear o3 y3
      go_wp2_with (fail)
      go_roundg (k - (m + 1))
      case measure => have := HG.out; omega
      case rel => exact ⟨m + 1, _, by omega, rfl, by go_num, O3.out, HL.out, Y3.out, HST⟩
    · have hlt' : ¬ (m : Int) < (k : Int) := by omega
      have hR : r = R := by
        have h := HI.out
        rw [List.drop_eq_nil_of_le (by have := K.out; omega)] at h
        exact h
      subst hR
      obtain ⟨A', c', rfl, _, _⟩ := hown.form
      have HOW := Lib.hid hown
      clear hown
      go_wp2_with (fail)
      go_ret
      exact ⟨A', c', rfl, HOW.out, y⟩
end Go.Proofs.YtfnkjcodcoehcaaGreatDoor
namespace Go.Proofs.YtfnkjcodcoehcaaGreatDoor
open Go.RowKit
set_option linter.unusedVariables false
set_option linter.unusedSimpArgs false

theorem all_drop {α : Type} {f : α → Bool} {l : List α} {m : Nat} {x : α} {R : Bool} (hd : l.drop m = x :: l.drop (m + 1)) (h : (l.drop m).all f = R) : (f x && (l.drop (m + 1)).all f) = R := by
  rw [hd] at h; simpa using h
theorem fitsR_class {A : Option Addr} {nn cc : Nat} {l : List Ky} {id k n f : Int} {t : ByteArray} {w : World} {O : List (Nat × Obj)} {b : Bool} (hT : Lib.Utf8Tabs 1 2 w) (hn : nn = l.length) (h : RdKy w w.heap.size A l) (hb : nn ≤ 140737488355328) (h0 : 0 ≤ f) (h1 : f < 18446744073709551616) (hsz : t.size ≤ 100000000) (x : GW w O) (hf : fitsK l id ⟨k, n, f, t⟩ = b) :
    Calls Tryz.prog 175 #[.slice A nn cc, .int .i64 id, .agg #[.int .u8 k, .int .i64 n, .int .u64 f, .string t]] x.val fun e w' => e = .returned (.bool b) ∧ ∃ y : GW w O, w' = y.val :=
  good_call x ((fitsR_any A nn cc l id k n f t x.val hn (h.ext x.ok.1) hb h0 h1 hsz (tabs_good hT x)).mono fun e w' h' => ⟨by rw [h'.1, hf], h'.2⟩)
end Go.Proofs.YtfnkjcodcoehcaaGreatDoor
namespace Go.Proofs.YtfnkjcodcoehcaaGreatDoor
open Go.RowKit
set_option linter.unusedVariables false
set_option linter.unusedSimpArgs false

set_option maxRecDepth 100000 in
set_option maxHeartbeats 3200000 in
theorem mayR5_any (A B : Option Addr) (n c n2 c2 : Nat) (l : List Ky) (p : List At) (w : World) (hn : n = l.length) (h : RdKy w w.heap.size A l) (hb : n ≤ 140737488355328) (hn2 : n2 = p.length) (h2 : RdAt w w.heap.size B p) (hb2 : n2 ≤ 140737488355328) (hv : okVa p) (hT : Lib.Utf8Tabs 1 2 w) :
    Calls Tryz.prog 107 #[.slice A n c, .slice B n2 c2] w fun e w' => e = .returned (.int .i64 (mayS l p)) ∧ Below w.heap.size w w' := by
  have N := Lib.hid hn
  have N2 := Lib.hid hn2
  generalize hR : mayS l p = R
  have HR := Lib.hid hR
  clear hn hn2 hR
  go_enter Tryz.func107, Tryz.ntmps107
  go_wp2_with (go_at_call 35; refine Hid.out ?_)
  refine Lib.hid ?_
  refine (risingA_any B n2 c2 p w N2.out h2 hb2).mono ?_
  rintro e w1 ⟨rfl, d, rfl⟩
  generalize hrr : riseA p = Q
  have HQ := Lib.hid hrr
  clear hrr
  cases Q with
  | false =>
    go_wp2_with (fail)
    go_ret
    refine ⟨ret_int ?_, ext_drew _ _⟩
    rw [← HR.out]
    unfold mayS
    rw [HQ.out]
    by_cases h : 64 < p.length <;> simp [h]
  | true =>
    by_cases h64 : (64 : Int) < (n2 : Int)
    · go_wp2_with (fail)
      go_ret
      refine ⟨ret_int ?_, ext_drew _ _⟩
      rw [← HR.out]
      unfold mayS
      rw [if_pos (by have := N2.out; omega)]
    have HP : Hid ((if p.all okA = true then (if p.all (thereA l) = true then 0 else 4) else 3) = R) := Lib.hid (by
      rw [← HR.out]
      unfold mayS
      rw [if_neg (show ¬ (64 < p.length) by have := N2.out; omega), HQ.out]
      simp)
    obtain ⟨R1, hR1⟩ : ∃ X, p.all okA = X := ⟨_, rfl⟩
    have HR1 := Lib.hid hR1
    clear hR1
    go_wp2_with (fail)
    go_loopg [5] n2 (fun g iv wr => ∃ m : Nat, m ≤ n2 ∧ g = n2 - m ∧ iv = .int .i64 (m : Int) ∧ Below w.heap.size w wr ∧ Hid ((p.drop m).all okA = R1))
    case atStart => exact ⟨0, by omega, rfl, rfl, ext_drew _ _, Lib.hid (by rw [List.drop_zero]; exact HR1.out)⟩
    case round =>
      obtain ⟨m, hm, hg, rfl, y, HI⟩ := hrel
      have HG := Lib.hid hg
      clear hg HR
      by_cases hlt : m < n2
      · have hl1 : m < p.length := by have := N2.out; omega
        obtain ⟨ad, x, rfl, had, hd1, hx1, hc0⟩ := (h2.below y (Nat.le_refl _)).el hl1
        have hxv := hv x (List.mem_of_getElem? hx1)
        have HI2 := Lib.hid (all_drop hd1 HI.out)
        obtain ⟨x1, x2, x3, x4, x5⟩ := x
        obtain ⟨r0, r1, r2, r3, r4⟩ := at_cells hc0
        obtain ⟨f0, f1⟩ : 0 ≤ x4 ∧ x4 < 18446744073709551616 := ⟨hxv.1.f0, hxv.1.f1⟩
        have hsz : x5.size ≤ 100000000 := hxv.2
        clear hc0 hd1 hx1 hxv HI
        have hw2 : IntKind.i64.wrap ((m:Int) + 1) = (m : Int) + 1 := IntWalk.i64_in _ (by omega)
        go_wp2_with (go_at_call 174; refine Hid.out ?_)
        refine Lib.hid ?_
        refine (refMayV_any x2 x3 x4 x5 _ f0 f1 hsz ?tb).mono ?_
        case tb => exact tabs_at hT y rfl
        rintro e w6 ⟨rfl, y6⟩
        have HOK : Hid (okA ⟨x1, x2, x3, x4, x5⟩ = mayV ⟨x2, x3, x4, x5⟩) := Lib.hid rfl
        generalize mayV ⟨x2, x3, x4, x5⟩ = M at HOK ⊢
        have yy6 := below_at y y6 rfl rfl rfl rfl
        cases M with
        | false =>
          have HF : Hid (p.all okA = false) := Lib.hid (by rw [HR1.out, ← HI2.out, HOK.out]; rfl)
          go_wp2_with (fail)
          go_ret
          exact ⟨ret_int (by rw [← HP.out, HF.out]; rfl), yy6⟩
        | true =>
          go_wp2_with (fail)
          go_roundg (n2 - (m + 1))
          case measure => have := HG.out; omega
          case rel => exact ⟨m + 1, by omega, rfl, by go_num, yy6, Lib.hid (by rw [← HI2.out, HOK.out, Bool.true_and])⟩
      · have HF : Hid (p.all okA = true) := Lib.hid (by rw [HR1.out, ← HI.out, List.drop_eq_nil_of_le (by have := N2.out; omega)]; rfl)
        clear HI HR1
        obtain ⟨R2, hR2⟩ : ∃ X, p.all (thereA l) = X := ⟨_, rfl⟩
        have HR2 := Lib.hid hR2
        clear hR2
        go_wp2_with (fail)
        go_loopg [6] n2 (fun g iv wr => ∃ m : Nat, m ≤ n2 ∧ g = n2 - m ∧ iv = .int .i64 (m : Int) ∧ Below w.heap.size w wr ∧ Hid ((p.drop m).all (thereA l) = R2))
        case atStart => exact ⟨0, by omega, rfl, rfl, y, Lib.hid (by rw [List.drop_zero]; exact HR2.out)⟩
        case round =>
          obtain ⟨m, hm, hg, rfl, y, HI⟩ := hrel
          have HG := Lib.hid hg
          clear hg
          by_cases hlt : m < n2
          · have hl1 : m < p.length := by have := N2.out; omega
            obtain ⟨ad, x, rfl, had, hd1, hx1, hcw⟩ := h2.el hl1
            have hxv := hv x (List.mem_of_getElem? hx1)
            have HI2 := Lib.hid (all_drop hd1 HI.out)
            obtain ⟨x1, x2, x3, x4, x5⟩ := x
            have HCW := Lib.hid hcw
            obtain ⟨f0, f1⟩ : 0 ≤ x4 ∧ x4 < 18446744073709551616 := ⟨hxv.1.f0, hxv.1.f1⟩
            have hsz : x5.size ≤ 100000000 := hxv.2
            clear hd1 hx1 hxv HI hcw
            have hw2 : IntKind.i64.wrap ((m:Int) + 1) = (m : Int) + 1 := IntWalk.i64_in _ (by omega)
            have gg : GoodB w [] wr := ⟨y, by intro p hp; cases hp⟩
            have hx : ∀ x : GW w [], CellsAt x.val (ad.add (m * 5)) (At.enc ⟨x1, x2, x3, x4, x5⟩) := fun x => HCW.out.keep fun q hq => x.ok.1.cell (by rw [hq, add_block]; exact had)
            have r0 : ∀ x : GW w [], _ := fun x => (at_cells (hx x)).1
            have r1 : ∀ x : GW w [], _ := fun x => (at_cells (hx x)).2.1
            have r2 : ∀ x : GW w [], _ := fun x => (at_cells (hx x)).2.2.1
            have r3 : ∀ x : GW w [], _ := fun x => (at_cells (hx x)).2.2.2.1
            have r4 : ∀ x : GW w [], _ := fun x => (at_cells (hx x)).2.2.2.2
            clear hx
            haveI : Nonempty (GW w []) := ⟨⟨_, gg⟩⟩
            obtain ⟨FI, hFI⟩ : ∃ X, fitsK l x1 ⟨x2, x3, x4, x5⟩ = X := ⟨_, rfl⟩
            have HFI := Lib.hid hFI
            have HTH : Hid (thereA l ⟨x1, x2, x3, x4, x5⟩ = FI) := Lib.hid hFI
            clear hFI
            cases FI with
            | false =>
              go_wp2_with (fail)
              refine wp_region_class (by kernel_rfl) (by kernel_rfl) gg ?_
              repeat (go_big_quiet_step (first | (go_at_call 175; with_reducible exact fitsR_class hT N.out h hb f0 f1 hsz _ HFI.out)))
              refine wpQuiet_nil ?_
              intro _ hw'
              obtain ⟨xx, rfl⟩ := hw'
              have yx := xx.ok.1
              generalize xx.val = w8 at *
              clear r0 r1 r2 r3 r4
              go_wp2_with (fail)
              go_ret
              exact ⟨ret_int (by rw [← HP.out, HF.out, show p.all (thereA l) = false by rw [HR2.out, ← HI2.out, HTH.out]; rfl]; rfl), yx⟩
            | true =>
              go_wp2_with (fail)
              refine wp_region_class (by kernel_rfl) (by kernel_rfl) gg ?_
              repeat (go_big_quiet_step (first | (go_at_call 175; with_reducible exact fitsR_class hT N.out h hb f0 f1 hsz _ HFI.out)))
              refine wpQuiet_nil ?_
              intro _ hw'
              obtain ⟨xx, rfl⟩ := hw'
              have yx := xx.ok.1
              generalize xx.val = w8 at *
              clear r0 r1 r2 r3 r4
              go_wp2_with (fail)
              go_roundg (n2 - (m + 1))
              case measure => have := HG.out; omega
              case rel => exact ⟨m + 1, by omega, rfl, by go_num, yx, Lib.hid (by rw [← HI2.out, HTH.out, Bool.true_and])⟩
          · have HF2 : Hid (p.all (thereA l) = true) := Lib.hid (by rw [HR2.out, ← HI.out, List.drop_eq_nil_of_le (by have := N2.out; omega)]; rfl)
            go_wp2_with (fail)
            go_ret
            exact ⟨ret_int (by rw [← HP.out, HF.out, HF2.out]; rfl), y⟩
end Go.Proofs.YtfnkjcodcoehcaaGreatDoor
namespace Go.Proofs.YtfnkjcodcoehcaaGreatDoor
open Go.RowKit
set_option linter.unusedVariables false
set_option linter.unusedSimpArgs false

/-- what may be written: F, and the row -/
def RowG (F : Nat → Prop) (v : Value) : Nat → Prop := fun k => F k ∨ wb v = some k
structure RowF (w : World) (F : Nat → Prop) (B : Nat) (v : Value) (D : List OpS) : Prop where
  own : OwOs w B v D
  parts : ∀ x ∈ D, PartF w (RowG F v) x
section
variable {w w' : World} {F : Nat → Prop} {B : Nat} {v v' : Value} {D M : List OpS}
theorem RowF.nil (w : World) (F : Nat → Prop) (B : Nat) : RowF w F B (.slice none 0 0) [] := ⟨Ow.nil _ _, fun x hx => by cases hx⟩
theorem RowF.ext (h : RowF w F B v D) (y : Below w.heap.size w w') : RowF w' F B v D := ⟨h.own.below y (Nat.le_refl _), fun x hx => (h.parts x hx).grow (Grow.of y)⟩
theorem row_grow (g : w.grownBy w' (wb v)) (hv : v' = v ∧ w' = w ∨ wb v' = wb v ∨ wb v' = some w.heap.size) : Grow w (RowG F v) w' (RowG F v') :=
  ⟨g.os, g.tape, g.output, g.size, fun j hj hn => g.block j hj (fun e => hn (.inr e.symm)), fun k hk => by
    rcases hk with hk | hk
    · exact .inl (.inl hk)
    · rcases hv with ⟨rfl, _⟩ | h | h
      · exact .inl (.inr hk)
      · exact .inl (.inr (h ▸ hk))
      · rw [h] at hk; injection hk with hk; exact .inr (by omega)⟩
theorem RowF.app (h : RowF w F B v D) (hm : ∀ x ∈ M, PartF w (RowG F v) x) (ho : OwOs w' B v' (D ++ M)) (g : w.grownBy w' (wb v)) (hv : v' = v ∧ w' = w ∨ wb v' = wb v ∨ wb v' = some w.heap.size) : RowF w' F B v' (D ++ M) :=
  ⟨ho, fun x hx => by
    rcases List.mem_append.1 hx with hx | hx
    · exact (h.parts x hx).grow (row_grow g hv)
    · exact (hm x hx).grow (row_grow g hv)⟩
/-- parts that were there ahead of the row are off it -/
theorem PartF.fresh {w0 : World} {x : OpS} (h : PartF w0 F x) (y : Below w0.heap.size w0 w) (hv : ∀ k, wb v = some k → w0.heap.size ≤ k) : PartF w (RowG F v) x := by
  have p := h.grow (Grow.of (F := F) y)
  have off : ∀ {α : Type} {enc : α → List Value} {size : Nat} {A : Option Addr} {l : List α}, Rd enc size w0 w0.heap.size A l → OffF F A l.length → OffF (RowG F v) A l.length := fun hr h1 ad e hl hk => by
    rcases hk with hk | hk
    · exact h1 ad e hl hk
    · obtain ⟨ad', e', hb, _⟩ := hr hl
      rw [e] at e'; injection e' with e'; subst e'
      have := hv _ hk; omega
  exact ⟨⟨p.1.1, off h.1.1 h.1.2⟩, ⟨p.2.1.1, off h.2.1.1 h.2.1.2⟩, ⟨p.2.2.1, off h.2.2.1 h.2.2.2⟩⟩
/-- a row new to what was there -/
theorem RowF.low (h : RowF w F B v D) : ∀ k, wb v = some k → B ≤ k := fun k hk => (h.own.wb_lt k hk).1
theorem RowF.set {g n c i j : Nat} {u : Value} {x' : OpS} (h : RowF w F B (.slice (some ⟨g, 0, none⟩) n c) D) (hi : i < D.length) (hj : j < 5) (he : x'.enc = D[i].enc.set j u) (hp : PartF w (RowG F (.slice (some ⟨g, 0, none⟩) n c)) x') :
    RowF (w.setCell ⟨g, i * 5 + j, none⟩ u) F B (.slice (some ⟨g, 0, none⟩) n c) (D.set i x') := by
  have hc : ∃ c', c = c' + 1 := by
    obtain ⟨A', c', hv, h1, _⟩ := h.own.form
    injection hv with _ hn hcc
    exact ⟨c - 1, by omega⟩
  obtain ⟨c', rfl⟩ := hc
  have gr : Grow w (RowG F (.slice (some ⟨g, 0, none⟩) n (c' + 1))) (w.setCell ⟨g, i * 5 + j, none⟩ u) (RowG F (.slice (some ⟨g, 0, none⟩) n (c' + 1))) := setCell_below g (i * 5 + j) u (.inr rfl) 0
  exact ⟨Ow.setEl OpS.enc_len h.own hi hj he, fun x hx => by
    rcases List.mem_or_eq_of_mem_set hx with hx | rfl
    · exact (h.parts x hx).grow gr
    · exact hp.grow gr⟩
end
end Go.Proofs.YtfnkjcodcoehcaaGreatDoor
namespace Go.Proofs.YtfnkjcodcoehcaaGreatDoor
set_option linter.unusedVariables false
set_option linter.unusedSimpArgs false

/-- what is told without a retain leaves alone what is done -/
theorem tell_gap : ∀ (g : List Opd) (m : Mk) (D : List Opd), (∀ o ∈ g, o.k ≠ 1) → g.foldl tellO ⟨D, m.ins, m.gone⟩ = ⟨D, (g.foldl tellO m).ins, (g.foldl tellO m).gone⟩
  | [], m, D, _ => rfl
  | o :: g, m, D, h => by
    rw [List.foldl_cons, List.foldl_cons]
    have h1 : o.k ≠ 1 := h o (by simp)
    have e : tellO ⟨D, m.ins, m.gone⟩ o = ⟨D, (tellO m o).ins, (tellO m o).gone⟩ := by
      unfold tellO
      rw [if_neg h1, if_neg h1]
      split
      · unfold mkInsert; split <;> rfl
      · rfl
    rw [e]
    exact tell_gap g (tellO m o) D (fun z hz => h z (List.mem_cons_of_mem _ hz))
/-- the ops of a gap, as rubricref16.gap makes them -/
def gapP (g : List Opd) : List Opd := mkGap (ofM g)
theorem of_gap {pre g : List Opd} (hi : (ofM pre).ins = []) (hz : (ofM pre).gone = 0) (hg : ∀ o ∈ g, o.k ≠ 1) : ofM (pre ++ g) = ⟨(ofM pre).done, (ofM g).ins, (ofM g).gone⟩ := by
  have e : ofM (pre ++ g) = g.foldl tellO (ofM pre) := by unfold ofM; rw [List.foldl_append]
  rw [e]
  have e2 : ofM pre = ⟨(ofM pre).done, Mk.new.ins, Mk.new.gone⟩ := by
    show ofM pre = ⟨(ofM pre).done, [], 0⟩
    rw [← hi, ← hz]
  rw [e2]
  exact tell_gap g Mk.new _ hg
theorem gap_ends {pre g : List Opd} (hi : (ofM pre).ins = []) (hz : (ofM pre).gone = 0) (hg : ∀ o ∈ g, o.k ≠ 1) : (ofM (pre ++ g)).done ++ mkGap (ofM (pre ++ g)) = (ofM pre).done ++ gapP g := by
  rw [of_gap hi hz hg]; rfl
/-- behind a retain -/
theorem of_ret {pre g : List Opd} {o : Opd} (hi : (ofM pre).ins = []) (hz : (ofM pre).gone = 0) (hg : ∀ z ∈ g, z.k ≠ 1) (hk : o.k = 1) (hn : 1 ≤ o.n) :
    ofM (pre ++ g ++ [o]) = ⟨addR ((ofM pre).done ++ gapP g) o.n o.p, [], 0⟩ := by
  rw [ofM_snoc]
  unfold tellO
  rw [if_pos hk]
  unfold mkRetain
  rw [if_neg (by omega), gap_ends hi hz hg]
/-- at the end -/
theorem of_end {pre g : List Opd} (hi : (ofM pre).ins = []) (hz : (ofM pre).gone = 0) (hg : ∀ z ∈ g, z.k ≠ 1) : mkOps (ofM (pre ++ g)) = cutR ((ofM pre).done ++ gapP g) := by
  unfold mkOps; rw [gap_ends hi hz hg]
/-- what Of answers -/
theorem of_is {x : List Opd} (h : ∀ o ∈ x, isOp o) (hb : (units x).length ≤ 4000000000) : mkOps (ofM x) = mkU (units x) := by
  have ht := ofM_told' x Told.new h (by simpa using hb)
  rw [List.nil_append] at ht
  exact told_mkU ht
theorem gap_ins {g : List Opd} {o : Opd} (ho : isOp o) (hk : o.k = 2) : ofM (g ++ [o]) = { ofM g with ins := addI (ofM g).ins o.r o.s } := by
  obtain ⟨_, hr⟩ := opI_of ho hk
  rw [ofM_snoc]; unfold tellO; rw [if_neg (by rw [hk]; decide), if_pos hk]
  unfold mkInsert; rw [if_neg hr]
/-- the gap grows: at its end into the last insert, or behind it -/
theorem addI_last {d : List Opd} {a : Opd} {r : List Int} : addI (d ++ [a]) r a.s = d ++ [{ a with r := a.r ++ r }] := by
  unfold addI; simp
theorem addI_new {d : List Opd} {o : Opd} (ho : isOp o) (hk : o.k = 2) (h : ∀ a, d.getLast? = some a → a.s ≠ o.s) : addI d o.r o.s = d ++ [o] := by
  obtain ⟨e, _⟩ := opI_of ho hk
  unfold addI
  cases hd : d.getLast? with
  | none => simp only; rw [← e]
  | some a => simp only; rw [if_neg (h a hd), ← e]
theorem addR_last {d : List Opd} {a : Opd} {n : Int} (hk : a.k = 1) : addR (d ++ [a]) n a.p = d ++ [{ a with n := IntKind.i64.wrap (a.n + n) }] := by
  unfold addR; simp [hk]
theorem addR_new {d : List Opd} {o : Opd} (ho : isOp o) (hk : o.k = 1) (h : ∀ a, d.getLast? = some a → ¬ (a.k = 1 ∧ a.p = o.p)) : addR d o.n o.p = d ++ [o] := by
  obtain ⟨e, _⟩ := opR_of ho hk
  unfold addR
  cases hd : d.getLast? with
  | none => simp only; rw [← e]
  | some a => simp only; rw [if_neg (h a hd), ← e]
end Go.Proofs.YtfnkjcodcoehcaaGreatDoor
