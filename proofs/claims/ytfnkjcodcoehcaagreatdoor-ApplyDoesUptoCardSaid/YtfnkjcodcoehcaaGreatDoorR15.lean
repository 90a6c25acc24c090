/- Merged texts: Clone, SetLaw, With, AttrsOps, AttrsLaw, PartALaw, PartA, OpPlace, OpFits, OpLaw. -/
import Derived.Test.YtfnkjcodcoehcaaGreatDoorR14
import Derived.Test.YtfnkjcodcoehcaaGreatDoorR11
import Derived.Test.YtfnkjcodcoehcaaGreatDoorR12
import Derived.Test.YtfnkjcodcoehcaaGreatDoorR10
import Derived.Deep.RegionHeld3
import Derived.Test.YtfnkjcodcoehcaaGreatDoorR9
import Derived.Test.YtfnkjcodcoehcaaGreatDoorR2
import Derived.Test.YtfnkjcodcoehcaaGreatDoorR3
namespace Go.Proofs.YtfnkjcodcoehcaaGreatDoor
open Go.RowKit
set_option linter.unusedVariables false
set_option linter.unusedSimpArgs false

set_option maxRecDepth 100000 in
set_option maxHeartbeats 400000 in
theorem cloneAt_any (A : Option Addr) (n c : Nat) (l : List At) (w : World) (hn : n = l.length) (h : RdAt w w.heap.size A l) (hb : n ≤ 100000000) :
    Calls Tryz.prog 187 #[.slice A n c] w (NewAt l w) := by
  cases A with
  | none =>
    have hl : l = [] := by
      cases l with
      | nil => rfl
      | cons a l => obtain ⟨ad, e, _⟩ := h (by simp); cases e
    subst hl
    have hn0 : n = 0 := by simpa using hn
    subst hn0
    clear hn
    have hq := fun (w : World) => Lib.run_eql_slice_nil (P := Tryz.prog) w 36 43 none 0 c 0 0 Tryz.slAt
    go_enter Tryz.func187, Tryz.ntmps187
    go_wp2_with (fail)
    go_ret
    exact ⟨none, 0, rfl, Ow.nil _ _, Below.refl _ _⟩
  | some ad =>
    have N := Lib.hid hn
    clear hn
    have hq := fun (w : World) => Lib.run_eql_slice_nil (P := Tryz.prog) w 36 43 (some ad) n c 0 0 Tryz.slAt
    go_enter Tryz.func187, Tryz.ntmps187
    go_wp2_with (first
      | (at_builtin; refine app_at (m := l) rfl (.tmp 5) (.tmp 6) rfl rfl (by exact Ow.empty _ w.heap.size _) _ _ _ _ rfl N.out (by exact h.ext (ext_alloc w _)) (by have := N.out; simp only [List.length_nil]; omega) (by simp) ?_; intro v' w' hown' hgr hv'))
    rw [List.nil_append] at hown'
    obtain ⟨A', c', rfl, _, _⟩ := hown'.form
    go_ret
    exact ⟨A', c', rfl, hown', (ext_alloc w _).grown hgr (by simp) (fun k hk => by cases hk)⟩

set_option maxRecDepth 100000 in
set_option maxHeartbeats 400000 in
theorem cloneCh_any (A : Option Addr) (n c : Nat) (l : List Ch) (w : World) (hn : n = l.length) (h : RdCh w w.heap.size A l) (hb : n ≤ 100000000) :
    Calls Tryz.prog 168 #[.slice A n c] w (NewCh l w) := by
  cases A with
  | none =>
    have hl : l = [] := by
      cases l with
      | nil => rfl
      | cons a l => obtain ⟨ad, e, _⟩ := h (by simp); cases e
    subst hl
    have hn0 : n = 0 := by simpa using hn
    subst hn0
    clear hn
    have hq := fun (w : World) => Lib.run_eql_slice_nil (P := Tryz.prog) w 48 77 none 0 c 0 0 Tryz.slCh
    go_enter Tryz.func168, Tryz.ntmps168
    go_wp2_with (fail)
    go_ret
    exact ⟨none, 0, rfl, Ow.nil _ _, Below.refl _ _⟩
  | some ad =>
    have N := Lib.hid hn
    clear hn
    have hq := fun (w : World) => Lib.run_eql_slice_nil (P := Tryz.prog) w 48 77 (some ad) n c 0 0 Tryz.slCh
    go_enter Tryz.func168, Tryz.ntmps168
    go_wp2_with (first
      | (at_builtin; refine app_ch (m := l) rfl (.tmp 5) (.tmp 6) rfl rfl (by exact Ow.empty _ w.heap.size _) _ _ _ _ rfl N.out (by exact h.ext (ext_alloc w _)) (by have := N.out; simp only [List.length_nil]; omega) (by simp) ?_; intro v' w' hown' hgr hv'))
    rw [List.nil_append] at hown'
    obtain ⟨A', c', rfl, _, _⟩ := hown'.form
    go_ret
    exact ⟨A', c', rfl, hown', (ext_alloc w _).grown hgr (by simp) (fun k hk => by cases hk)⟩
end Go.Proofs.YtfnkjcodcoehcaaGreatDoor
namespace Go.Proofs.YtfnkjcodcoehcaaGreatDoor
set_option linter.unusedVariables false
set_option linter.unusedSimpArgs false

theorem one_less {x : Int} : ∀ {keys : List Int}, keys.Pairwise (· < ·) → keys.length ≤ (keys.filter (fun k => decide (k ≠ x))).length + 1
  | [], _ => by simp
  | a :: r, h => by
    have h1 := List.pairwise_cons.1 h
    by_cases e : a = x
    · have hf : (a :: r).filter (fun k => decide (k ≠ x)) = r := by
        rw [List.filter_cons, if_neg (by simp [e])]
        refine List.filter_eq_self.2 fun b hb => ?_
        have := h1.1 b hb
        simp; omega
      rw [hf]; simp
    · rw [List.filter_cons, if_pos (by simp [e])]
      have := one_less h1.2 (x := x)
      simp only [List.length_cons]; omega
theorem keys_len {l : List Ky} : ∀ {keys : List Int}, keys.Pairwise (· < ·) → (∀ k ∈ keys, (findK l k).isSome = true) → keys.length ≤ l.length := by
  induction l with
  | nil =>
    intro keys _ h
    cases keys with
    | nil => simp
    | cons a r => have := h a (by simp); simp [findK] at this
  | cons x l ih =>
    intro keys hp h
    have h1 := ih (keys := keys.filter (fun k => decide (k ≠ x.id))) (List.Pairwise.filter _ hp) (fun k hk => by
      obtain ⟨hk1, hk2⟩ := List.mem_filter.1 hk
      have hk2 : ¬ k = x.id := by simpa using hk2
      have h3 := h k hk1
      have h4 : ¬ x.id = k := fun e => hk2 e.symm
      simpa [findK, h4] using h3)
    have h2 := one_less (x := x.id) hp
    simp only [List.length_cons]; omega
theorem fits_some {l : List Ky} {id : Int} {v : V} (h : fitsK l id v = true) : (findK l id).isSome = true := by
  unfold fitsK at h
  cases hq : findK l id with
  | none => rw [hq] at h; cases h
  | some k => rfl
theorem keys_lenA {l : List Ky} {p : List At} (hp : riseA p = true) (h : ∀ c ∈ p, thereA l c = true) : p.length ≤ l.length := by
  have h1 := riseA_srt.1 hp
  have h2 : (p.map (·.key)).Pairwise (· < ·) := List.pairwise_map.2 h1
  have h3 := keys_len (l := l) h2 (fun k hk => by
    obtain ⟨c, hc, rfl⟩ := List.mem_map.1 hk
    exact fits_some (h c hc))
  simpa using h3
theorem stayA {l : List Ky} (hl : l.length ≤ 64) {p : List At} (hs : Srt At.key p) (h : ∀ c ∈ p, okA c = true ∧ thereA l c = true) : mayS l p = 0 := by
  have h1 := keys_lenA (l := l) (riseA_srt.2 hs) (fun c hc => (h c hc).2)
  unfold mayS
  rw [if_neg (by omega), if_pos ⟨riseA_srt.2 hs, List.all_eq_true.2 (fun c hc => (h c hc).1)⟩, if_pos (List.all_eq_true.2 (fun c hc => (h c hc).2))]
end Go.Proofs.YtfnkjcodcoehcaaGreatDoor
namespace Go.Proofs.YtfnkjcodcoehcaaGreatDoor
open Go.RowKit
set_option linter.unusedVariables false
set_option linter.unusedSimpArgs false

def withP (l : List At) (a : At) : List At := applyP [⟨a.key, false, a.v⟩] l
theorem up_drew {B : Nat} {a b : World} (h : Below B a b) : Below B a b.drew := ⟨h.1, h.2, h.3, h.4, h.5⟩
end Go.Proofs.YtfnkjcodcoehcaaGreatDoor
namespace Go.Proofs.YtfnkjcodcoehcaaGreatDoor
open Go.RowKit
set_option linter.unusedVariables false
set_option linter.unusedSimpArgs false

set_option maxHeartbeats 400000 in
theorem copy_any (A : Option Addr) (n c : Nat) (l : List At) (w : World) (hn : n = l.length) (h : RdAt w w.heap.size A l) (hb : n ≤ 100000000) :
    Calls Tryz.prog 143 #[.slice A n c] w (NewAt l w) := by
  have N := Lib.hid hn
  clear hn
  go_enter Tryz.func143, Tryz.ntmps143
  go_wp2_with (go_at_call 187; refine Hid.out ?_)
  refine Lib.hid ?_
  refine (cloneAt_any A n c l w N.out h hb).mono ?_
  rintro e w2 ⟨A2, c2, rfl, ho, hb2⟩
  generalize hq : l.length = q at *
  go_wp2_with (fail)
  go_ret
  exact ⟨A2, c2, by rw [hq]; rfl, by rw [hq]; exact ho, hb2⟩

end Go.Proofs.YtfnkjcodcoehcaaGreatDoor
namespace Go.Proofs.YtfnkjcodcoehcaaGreatDoor
set_option linter.unusedVariables false
set_option linter.unusedSimpArgs false

theorem with_all {l : List At} (h : riseA l = true) (a : At) :
    riseA (withP l a) = true ∧ (∀ k, lk At.key (withP l a) k = if a.key = k then some a else lk At.key l k) ∧ (withP l a).length ≤ l.length + 1 := by
  have hs := riseA_srt.1 h
  have hp : Srt Ch.key [(⟨a.key, false, a.v⟩ : Ch)] := (srt_cons Ch.key).2 ⟨by simp, Srt.nil Ch.key⟩
  obtain ⟨h1, h2, _, h4⟩ := apply_all hp hs
  refine ⟨riseA_srt.2 h1, fun k => ?_, by unfold withP; simp at h4; omega⟩
  unfold withP
  rw [h2 k, lk_cons, lk_nil]
  simp only
  split <;> simp [lkApply]

end Go.Proofs.YtfnkjcodcoehcaaGreatDoor
namespace Go.Proofs.YtfnkjcodcoehcaaGreatDoor
set_option linter.unusedVariables false
set_option linter.unusedSimpArgs false

/-- the attributes of block keys, or of inline ones -/
def partS (l : List Ky) (b : Bool) (p : List At) : List At := p.filter (fun c => keepK l b c.key)
theorem keep_one' {l : List Ky} {id : Int} (h : (findK l id).isSome = true) : keepK l true id = !keepK l false id := by
  unfold keepK
  cases hq : findK l id with
  | none => rw [hq] at h; cases h
  | some k => simp only; cases k.block <;> rfl
theorem partS_len {l : List Ky} {p : List At} (ht : ∀ a ∈ p, thereA l a = true) : (partS l false p).length + (partS l true p).length = p.length := by
  induction p with
  | nil => rfl
  | cons c p ih =>
    have h1 := ih (fun a ha => ht a (List.mem_cons_of_mem _ ha))
    have h3 := keep_one' (fits_some (ht c (by simp)))
    unfold partS at *
    rw [List.filter_cons, List.filter_cons]
    cases h4 : keepK l false c.key <;> rw [h4] at h3 <;> simp [h3] <;> omega
end Go.Proofs.YtfnkjcodcoehcaaGreatDoor
namespace Go.Proofs.YtfnkjcodcoehcaaGreatDoor
open Go.RowKit
set_option linter.unusedVariables false
set_option linter.unusedSimpArgs false

set_option maxHeartbeats 1600000 in
theorem partClA_any (s b1 b2 : Nat) (l : List Ky) (b : Bool) (x1 x2 x3 x4 : Int) (x5 : ByteArray) (w : World) (hS : Sch w s l)
    (h1 : w.heap[b1]? = some (.cells #[.pointer (some ⟨s, 0, none⟩)] 26 (0, 0))) (h2 : w.heap[b2]? = some (.cells #[.bool b] 4 (0, 0))) :
    Calls Tryz.prog 188 #[.agg #[.int .i64 x1, .int .u8 x2, .int .i64 x3, .int .u64 x4, .string x5], .pointer (some ⟨b1, 0, none⟩), .pointer (some ⟨b2, 0, none⟩)] w fun e w' => e = .returned (.bool (!keepK l b x1)) ∧ Below w.heap.size w w' := by
  have y0 := ext_alloc w (.cells #[.int .i64 x1, .int .u8 x2, .int .i64 x3, .int .u64 x4, .string x5] 43)
  have c1 := box_1 ((y0.block b1 (lt_of_some h1)).trans h1)
  have g2 := (y0.block b2 (lt_of_some h2)).trans h2
  have HS := Lib.hid (hS.ext y0)
  have G2 := Lib.hid g2
  clear g2 hS
  go_enter Tryz.func188, Tryz.ntmps188
  go_wp2_with (go_at_call 62; refine Hid.out ?_)
  refine Lib.hid ?_
  generalize hw0 : w.alloc _ = w0 at *
  clear hw0
  refine (findS_any s l x1 w0 HS.out).mono ?_
  rintro e w1 ⟨i, c, kd, d, g, q, ok, rfl, hk, hb, y1⟩
  have y2 := ext_alloc w1 (.cells #[.int .i64 i, .bool c, .int .u8 kd, .bool d, .bool g, .int .i64 q] 97)
  have g3 := (y1.block b2 (lt_of_some G2.out)).trans G2.out
  have c2 := box_1 ((y2.block b2 (lt_of_some g3)).trans g3)
  have yy := ext_trans y0 (ext_trans y1 y2)
  have HB := Lib.hid hb
  have HK := Lib.hid hk
  clear g3 hk hb
  cases ok with
  | false =>
    have HE : Hid (keepK l b x1 = false) := Lib.hid (by
      have h := HB.out
      unfold keepK
      cases hq : findK l x1 with
      | none => rfl
      | some k => rw [hq] at h; cases h)
    go_wp2_with (fail)
    go_ret
    exact ⟨ret_bool (by rw [HE.out]; rfl), yy⟩
  | true =>
    have HE : Hid (keepK l b x1 = (c == b)) := Lib.hid (by
      have h := HB.out
      have h2 := HK.out
      unfold keepK
      cases hq : findK l x1 with
      | none => rw [hq] at h; cases h
      | some k => rw [hq] at h2; simp at h2; subst h2; rfl)
    go_wp2_with (fail)
    go_ret
    exact ⟨ret_bool (by rw [HE.out] <;> (cases c <;> cases b <;> rfl)), yy⟩

set_option maxRecDepth 100000 in
set_option maxHeartbeats 1600000 in
theorem partA_any (s : Nat) (l : List Ky) (b : Bool) (A : Option Addr) (n c : Nat) (p : List At) (w : World) (hn : n = p.length) (h : RdAt w w.heap.size A p) (hb : n ≤ 100000000) (hS : Sch w s l) :
    Calls Tryz.prog 134 #[.pointer (some ⟨s, 0, none⟩), .slice A n c, .bool b] w (NewAt (partS l b p) w) := by
  have N := Lib.hid hn
  have ya := ext_alloc w (.cells #[.pointer (some ⟨s, 0, none⟩)] 26)
  have yb := ext_alloc (w.alloc (.cells #[.pointer (some ⟨s, 0, none⟩)] 26)) (.cells #[.bool b] 4)
  have g1 := heap_alloc_new w (.cells #[.pointer (some ⟨s, 0, none⟩)] 26)
  have g2 := heap_alloc_new (w.alloc (.cells #[.pointer (some ⟨s, 0, none⟩)] 26)) (.cells #[.bool b] 4)
  have G1 := Lib.hid ((yb.block w.heap.size (by simp)).trans g1)
  rw [World.size_alloc] at g2
  have G2 := Lib.hid g2
  have y := ext_trans ya yb
  have hh := h.ext y
  have HS := Lib.hid (hS.ext y)
  clear hn g1 g2 ya yb h hS
  go_enter Tryz.func134, Tryz.ntmps134
  go_wp2_with (go_at_call 187; refine Hid.out ?_)
  refine Lib.hid ?_
  refine (cloneAt_any A n c p _ N.out hh hb).mono ?_
  rintro e w1 ⟨A', c', rfl, hown, y1⟩
  have HOW := Lib.hid hown
  have hsz2 : ((w.alloc (.cells #[.pointer (some ⟨s, 0, none⟩)] 26)).alloc (.cells #[.bool b] 4)).heap.size = w.heap.size + 2 := by simp
  have G1' := Lib.hid ((y1.block w.heap.size (by rw [hsz2]; omega)).trans G1.out)
  have G2' := Lib.hid ((y1.block (w.heap.size + 1) (by rw [hsz2]; omega)).trans G2.out)
  have hb1 : w.heap.size + 2 ≤ w1.heap.size := by have := y1.size; omega
  have HSZ := Lib.hid hsz2
  clear hown hsz2
  go_wp2_with (go_at_call 186; refine Hid.out ?_)
  refine Lib.hid ?_
  refine (deletePartA_any w.heap.size (w.heap.size + 1) (fun c => !keepK l b c.key) A' p.length c' _ p w1 HOW.out (by rw [HSZ.out]; exact hb1) (by have := N.out; omega) rfl ?cl).mono ?_
  case cl =>
    intro x1 x2 x3 x4 x5 w' hb'
    refine partClA_any s _ _ l b x1 x2 x3 x4 x5 w' (HS.out.ext (y1.trans hb')) ?_ ?_
    · exact (hb'.block _ (by rw [HSZ.out]; omega)).trans G1'.out
    · exact (hb'.block _ (by rw [HSZ.out]; omega)).trans G2'.out
  rintro e w2 ⟨A2, c2, rfl, hown2, y2⟩
  have yy : Below w.heap.size w w2 := ext_trans y (y1.trans y2)
  have hf : p.filter (fun x => !!keepK l b x.key) = partS l b p := by simp [partS]
  rw [hf] at hown2 ⊢
  have HO2 := Lib.hid (hown2.base_le (B := w.heap.size) (by rw [HSZ.out]; omega))
  clear hown2 hf
  go_wp2_with (fail)
  go_ret
  exact ⟨A2, c2, rfl, HO2.out, yy⟩
end Go.Proofs.YtfnkjcodcoehcaaGreatDoor
namespace Go.Proofs.YtfnkjcodcoehcaaGreatDoor
open Go.RowKit
set_option linter.unusedVariables false
set_option linter.unusedSimpArgs false

/-- is an op's insert in place? -/
def placeO (l : List Ky) (o : Opd) : Bool :=
  if o.k = 2 ∧ 0 < o.s.length then
    !((decide (0 < (partS l true o.s).length) || decide (0 < nlR o.r)) && (decide ((partS l true o.s).length < o.s.length) || decide (nlR o.r < o.r.length)))
  else true
def placeP (l : List Ky) (x : List OpS) : Bool := x.all (fun o => placeO l o.o)
theorem place_drop {l : List Ky} {x : List OpS} {m : Nat} {o : OpS} {R : Bool} (hd : x.drop m = o :: x.drop (m + 1)) (h : placeP l (x.drop m) = R) : (placeO l o.o && placeP l (x.drop (m + 1))) = R := by
  rw [hd] at h; exact h
set_option maxRecDepth 100000 in
set_option maxHeartbeats 3200000 in
theorem inPlace_any (sc : Nat) (l : List Ky) (A : Option Addr) (n c : Nat) (x : List OpS) (w : World) (hn : n = x.length) (h : RdOp w w.heap.size A x) (hb : n ≤ 140737488355328) (hS : Sch w sc l) (ho : ∀ o ∈ x, okOp o.o) :
    Calls Tryz.prog 163 #[.pointer (some ⟨sc, 0, none⟩), .slice A n c] w fun e w' => e = .returned (.bool (placeP l x)) ∧ Below w.heap.size w w' := by
  have N := Lib.hid hn
  generalize hR : placeP l x = R
  have HR := Lib.hid hR
  clear hn hR
  go_enter Tryz.func163, Tryz.ntmps163
  go_wp2_with (fail)
  go_loopg [11] n (fun g iv wr => ∃ (m : Nat), m ≤ n ∧ g = n - m ∧ iv = .int .i64 (m : Int) ∧ Below w.heap.size w wr ∧ Hid (placeP l (x.drop m) = R))
  case atStart => exact ⟨0, by omega, rfl, rfl, Below.refl _ _, Lib.hid (by rw [List.drop_zero]; exact HR.out)⟩
  case round =>
    obtain ⟨m, hm, hg, rfl, y, HI⟩ := hrel
    have HG := Lib.hid hg
    clear hg HR
    by_cases hlt : m < n
    · have hl1 : m < x.length := by have := N.out; omega
      obtain ⟨ad, o, had0, had, hd1, hx1, hc0⟩ := (h.1.below y (Nat.le_refl _)).el hl1
      subst had0
      have hmem := List.mem_of_getElem? hx1
      obtain ⟨q1, q2, q3, q4, q5⟩ := ho o hmem
      obtain ⟨g1, g2, g3⟩ := h.2 o hmem
      have HI2 := Lib.hid (place_drop hd1 HI.out)
      obtain ⟨⟨k, nn, r, s, p⟩, Ar, cr, As, cs, Ap, cp⟩ := o
      obtain ⟨r0, r1, r2, r3, r4⟩ := op_cells hc0
      simp only at g1 g2 g3 q3 q4 q5
      have y2 := ext_trans y (ext_alloc wr (.cells #[.int .u8 k, .int .i64 nn, .slice Ar r.length cr, .slice As s.length cs, .slice Ap p.length cp] 50))
      have hbx := heap_alloc_new wr (.cells #[.int .u8 k, .int .i64 nn, .slice Ar r.length cr, .slice As s.length cs, .slice Ap p.length cp] 50)
      have hw2 : IntKind.i64.wrap ((m:Int) + 1) = (m : Int) + 1 := IntWalk.i64_in _ (by omega)
      have HBX := Lib.hid hbx
      clear hc0 hd1 hx1 hmem HI hbx
      by_cases hk : k = 2
      · subst hk
        by_cases hs : s.length = 0
        · have hs0 : ((s.length : Int) == 0) = true := by rw [hs]; rfl
          have HP : Hid (placeO l ⟨2, nn, r, s, p⟩ = true) := Lib.hid (by unfold placeO; rw [if_neg (by simp only; omega)])
          clear hs
          go_wp2_with (fail)
          go_roundg (n - (m + 1))
          case measure => have := HG.out; omega
          case rel => exact ⟨m + 1, by omega, rfl, by go_num, y2, Lib.hid (by rw [← HI2.out, HP.out, Bool.true_and])⟩
        · have hs0 : ((s.length : Int) == 0) = false := beq_eq_false_iff_ne.2 (fun e => hs (by omega))
          obtain ⟨ns, hns⟩ : ∃ X, s.length = X := ⟨_, rfl⟩
          obtain ⟨nr, hnr⟩ : ∃ X, r.length = X := ⟨_, rfl⟩
          obtain ⟨np, hnp⟩ : ∃ X, p.length = X := ⟨_, rfl⟩
          have NS := Lib.hid hns
          have NR := Lib.hid hnr
          rw [hns] at r3 hs hs0 q4
          rw [hnr] at r2 q3
          rw [hnp] at r4
          rw [hns, hnr, hnp] at y2
          have HBX2 := HBX.out
          rw [hns, hnr, hnp] at HBX2
          have HBX := Lib.hid HBX2
          clear hns hnr hnp HBX2
          go_wp2_with (fail)
          obtain ⟨B, hB⟩ : ∃ X, wr.heap.size = X := ⟨_, rfl⟩
          rw [hB] at HBX ⊢
          generalize wr.alloc (.cells #[.int .u8 2, .int .i64 nn, .slice Ar nr cr, .slice As ns cs, .slice Ap np cp] 50) = w5 at *
          have hS5 := hS.ext y2
          have ha5 := g2.ext y2
          have hr5 := g1.ext y2
          obtain ⟨c0, c1, c2, c3, c4⟩ := box_at HBX.out
          have hBl := lt_of_some HBX.out
          have yd : Below w5.heap.size w5 w5.drew := (Below.refl _ _).drew
          have hS6 := hS5.ext yd
          have ha6 := ha5.ext yd
          have hr6 := hr5.ext yd
          have HBX6 := Lib.hid ((yd.block B hBl).trans HBX.out)
          have hBl6 := lt_of_some HBX6.out
          clear r0 r1 r2 r3 r4 c0 c1 c4
          go_region_held3 (fun w' => w'.cell? ⟨B, 2, none⟩ = some (.slice Ar nr cr) ∧ w'.cell? ⟨B, 3, none⟩ = some (.slice As ns cs))
            (go_keep) (first
              | (go_at_call 134
                 with_reducible refine (partA_any sc l true As ns cs s w5.drew NS.out.symm ha6 q4 hS6).mono ?_
                 rintro e w6 ⟨A2, c2', rfl, ho2, y6⟩
                 obtain ⟨f0, f1, f2, f3, f4⟩ := box_at ((y6.block B hBl6).trans HBX6.out))
              | (go_at_call 209
                 with_reducible refine (newlines_any Ar nr cr r w5.drew NR.out.symm hr6 (by omega)).mono ?_
                 rintro e w6 ⟨rfl, rfl⟩)
              | (go_at_call 209
                 with_reducible refine (newlines_any Ar nr cr r w6 NR.out.symm (hr6.ext y6) (by omega)).mono ?_
                 rintro e w7 ⟨rfl, rfl⟩))
          all_goals
            have yy := ext_trans y2 (ext_trans yd y6)
            have HV : Hid (placeO l ⟨2, nn, r, s, p⟩ = !((decide (0 < (partS l true s).length) || decide (0 < nlR r)) && (decide ((partS l true s).length < ns) || decide (nlR r < nr)))) := Lib.hid (by
              unfold placeO
              rw [if_pos (show (2 : Int) = 2 ∧ 0 < s.length from ⟨rfl, by have := NS.out; omega⟩)]
              simp only [NS.out, NR.out])
            generalize (partS l true s).length = nb at *
            generalize nlR r = nl at *
            clear ho2 f0 f1 f4
            by_cases t1 : (0 : Int) < (nb : Int)
            · have t1' : 0 < nb := by omega
              by_cases t3 : (nb : Int) < (ns : Int)
              · have t3' : nb < ns := by omega
                go_wp2_with (fail)
                go_ret
                exact ⟨ret_bool (by rw [← HI2.out, HV.out]; simp [t1', t3']), yy⟩
              by_cases t4 : (nl : Int) < (nr : Int)
              · have t4' : nl < nr := by omega
                go_wp2_with (fail)
                go_ret
                exact ⟨ret_bool (by rw [← HI2.out, HV.out]; simp [t1', t4']), yy⟩
              have t3' : ¬ nb < ns := by omega
              have t4' : ¬ nl < nr := by omega
              go_wp2_with (fail)
              go_roundg (n - (m + 1))
              case measure => have := HG.out; omega
              case rel => exact ⟨m + 1, by omega, rfl, by go_num, yy, Lib.hid (by rw [← HI2.out, HV.out]; simp [t3', t4'])⟩
            by_cases t2 : (0 : Int) < (nl : Int)
            · have t2' : 0 < nl := by omega
              have t3 : (nb : Int) < (ns : Int) := by omega
              have t3' : nb < ns := by omega
              go_wp2_with (fail)
              go_ret
              exact ⟨ret_bool (by rw [← HI2.out, HV.out]; simp [t2', t3']), yy⟩
            have t1' : nb = 0 := by omega
            have t2' : nl = 0 := by omega
            go_wp2_with (fail)
            go_roundg (n - (m + 1))
            case measure => have := HG.out; omega
            case rel => exact ⟨m + 1, by omega, rfl, by go_num, yy, Lib.hid (by rw [← HI2.out, HV.out]; simp [t1', t2'])⟩
      · have hb2 : (k == 2) = false := beq_eq_false_iff_ne.2 hk
        have HP : Hid (placeO l ⟨k, nn, r, s, p⟩ = true) := Lib.hid (by unfold placeO; rw [if_neg (by simp only; omega)])
        clear hk
        go_wp2_with (fail)
        go_roundg (n - (m + 1))
        case measure => have := HG.out; omega
        case rel => exact ⟨m + 1, by omega, rfl, by go_num, y2, Lib.hid (by rw [← HI2.out, HP.out, Bool.true_and])⟩
    · go_wp2_with (fail)
      go_ret
      refine ⟨ret_bool ?_, y⟩
      rw [← HI.out, List.drop_eq_nil_of_le (by have := N.out; omega)]
      rfl
end Go.Proofs.YtfnkjcodcoehcaaGreatDoor
namespace Go.Proofs.YtfnkjcodcoehcaaGreatDoor
open Go.RowKit
set_option linter.unusedVariables false
set_option linter.unusedSimpArgs false

/-- as long as told behind a delta -/
def longO (n : Int) (x : List OpS) : Int := IntKind.i64.wrap (IntKind.i64.wrap (n - takesP x) + makesP x)
/-- why a delta does not fit a document of n cells -/
def fitsO (l : List Ky) (x : List OpS) (n most : Int) : Int :=
  if ¬ mayO l x = 0 then mayO l x
  else if n < 1 ∨ most < n ∨ n < takesP x then 5
  else if finalP n x = false then 6
  else if placeP l x = false then 7
  else if most < longO n x then 8 else 0

set_option maxRecDepth 100000 in
set_option maxHeartbeats 1600000 in
theorem fitsO_any (sc : Nat) (l : List Ky) (A : Option Addr) (n c : Nat) (x : List OpS) (lim most : Int) (w : World) (hn : n = x.length) (h : RdOp w w.heap.size A x) (hb : n ≤ 140737488355328) (hS : Sch w sc l) (ho : ∀ o ∈ x, okOp o.o) (hT : Lib.Utf8Tabs 1 2 w) :
    Calls Tryz.prog 89 #[.pointer (some ⟨sc, 0, none⟩), .slice A n c, .int .i64 lim, .int .i64 most] w fun e w' => e = .returned (.int .i64 (fitsO l x lim most)) ∧ Below w.heap.size w w' := by
  have N := Lib.hid hn
  obtain ⟨R, hR⟩ : ∃ X, fitsO l x lim most = X := ⟨_, rfl⟩
  rw [hR]
  unfold fitsO at hR
  have HR := Lib.hid hR
  clear hn hR
  have y := Below.refl w.heap.size w
  go_enter Tryz.func89, Tryz.ntmps89
  go_wp2_with (go_at_call 88; refine Hid.out ?_)
  refine Lib.hid ?_
  refine (mayO_any sc l A n c x w N.out h hb hS ho hT).mono ?_
  rintro e w1 ⟨rfl, y1⟩
  replace y := ext_trans y y1
  clear y1
  generalize mayO l x = E at HR ⊢
  by_cases hE : E = 0
  rotate_left
  · have hne : (E == 0) = false := beq_eq_false_iff_ne.2 hE
    have HE : Hid (E = R) := Lib.hid (by rw [← HR.out, if_pos hE])
    clear hE
    go_wp2_with (fail)
    go_ret
    exact ⟨ret_int HE.out, y⟩
  subst hE
  have HR2 : Hid ((if lim < 1 ∨ most < lim ∨ lim < takesP x then 5 else if finalP lim x = false then 6 else if placeP l x = false then 7 else if most < longO lim x then 8 else 0) = R) := Lib.hid (by rw [← HR.out, if_neg (show ¬ ¬ ((0 : Int) = 0) by simp)])
  clear HR
  by_cases h1 : lim < 1
  · go_wp2_with (fail)
    go_ret
    exact ⟨ret_int (by rw [← HR2.out, if_pos (.inl h1)]), y⟩
  by_cases h2 : most < lim
  · go_wp2_with (fail)
    go_ret
    exact ⟨ret_int (by rw [← HR2.out, if_pos (.inr (.inl h2))]), y⟩
  go_wp2_with (go_at_call 104; refine Hid.out ?_)
  refine Lib.hid ?_
  refine (takes_any A n c x _ N.out (h.ext y).1 hb).mono ?_
  rintro e w2 ⟨rfl, y1⟩
  replace y := ext_trans y y1
  clear y1
  obtain ⟨T, hT'⟩ : ∃ X, takesP x = X := ⟨_, rfl⟩
  rw [hT'] at HR2 ⊢
  have HTK := Lib.hid hT'
  clear hT'
  by_cases h3 : lim < T
  · go_wp2_with (fail)
    go_ret
    exact ⟨ret_int (by rw [← HR2.out, if_pos (.inr (.inr h3))]), y⟩
  have HR3 : Hid ((if finalP lim x = false then 6 else if placeP l x = false then 7 else if most < longO lim x then 8 else 0) = R) := Lib.hid (by rw [← HR2.out, if_neg (show ¬ (lim < 1 ∨ most < lim ∨ lim < T) by omega)])
  clear HR2
  go_wp2_with (go_at_call 162; refine Hid.out ?_)
  refine Lib.hid ?_
  refine (final_any A n c x lim _ N.out (h.ext y).1 hb).mono ?_
  rintro e w3 ⟨rfl, y1⟩
  replace y := ext_trans y y1
  clear y1
  generalize finalP lim x = F at HR3 ⊢
  cases F with
  | false =>
    go_wp2_with (fail)
    go_ret
    exact ⟨ret_int (by rw [← HR3.out]; simp), y⟩
  | true =>
    have HR4 : Hid ((if placeP l x = false then 7 else if most < longO lim x then 8 else 0) = R) := Lib.hid (by rw [← HR3.out, if_neg (show ¬ (true = false) by simp)])
    clear HR3
    go_wp2_with (go_at_call 163; refine Hid.out ?_)
    refine Lib.hid ?_
    refine (inPlace_any sc l A n c x _ N.out (h.ext y) hb (hS.ext y) ho).mono ?_
    rintro e w4 ⟨rfl, y1⟩
    replace y := ext_trans y y1
    clear y1
    generalize placeP l x = G at HR4 ⊢
    cases G with
    | false =>
      go_wp2_with (fail)
      go_ret
      exact ⟨ret_int (by rw [← HR4.out]; simp), y⟩
    | true =>
      have HR5 : Hid ((if most < longO lim x then 8 else 0) = R) := Lib.hid (by rw [← HR4.out, if_neg (show ¬ (true = false) by simp)])
      clear HR4
      go_wp2_with (go_at_call 104; refine Hid.out ?_)
      refine Lib.hid ?_
      refine (takes_any A n c x _ N.out (h.ext y).1 hb).mono ?_
      rintro e w5 ⟨rfl, y1⟩
      replace y := ext_trans y y1
      clear y1
      rw [HTK.out]
      obtain ⟨D, hD⟩ : ∃ D, IntKind.i64.wrap (lim - T) = D := ⟨_, rfl⟩
      go_wp2_with (go_at_call 105; refine Hid.out ?_)
      refine Lib.hid ?_
      refine (makes_any A n c x _ N.out (h.ext y).1 hb).mono ?_
      rintro e w6 ⟨rfl, y1⟩
      replace y := ext_trans y y1
      clear y1
      obtain ⟨U, hU⟩ : ∃ X, makesP x = X := ⟨_, rfl⟩
      rw [hU]
      obtain ⟨G, hG⟩ : ∃ G, IntKind.i64.wrap (D + U) = G := ⟨_, rfl⟩
      have HLO : Hid (longO lim x = G) := Lib.hid (by unfold longO; rw [HTK.out, hD, hU, hG])
      clear hU
      by_cases h5 : most < G
      · go_wp2_with (fail)
        go_ret
        exact ⟨ret_int (by rw [← HR5.out, HLO.out, if_pos h5]), y⟩
      · go_wp2_with (fail)
        go_ret
        exact ⟨ret_int (by rw [← HR5.out, HLO.out, if_neg (show ¬ most < G by omega)]), y⟩
end Go.Proofs.YtfnkjcodcoehcaaGreatDoor
namespace Go.Proofs.YtfnkjcodcoehcaaGreatDoor
open Go.RowKit
set_option linter.unusedVariables false
set_option linter.unusedSimpArgs false

def goodO (l : List Ky) (x : List OpS) : Prop := ∀ o ∈ x, oneP l o.o = 0
theorem goodO.tail {l : List Ky} {o : OpS} {x : List OpS} (h : goodO l (o :: x)) : goodO l x := fun z hz => h z (List.mem_cons_of_mem _ hz)
theorem fold_one {l : List Ky} : ∀ (x : List OpS) (a : Int), (x.foldl (mayStep l) (false, a)).1 = false → (x.foldl (mayStep l) (false, a)).2 = 0 → a = 0 ∧ goodO l x
  | [], a, _, h => ⟨h, fun z hz => by cases hz⟩
  | o :: x, a, h1, h2 => by
    rw [List.foldl_cons] at h1 h2
    unfold mayStep at h1 h2
    simp only [Bool.false_eq_true, if_false] at h1 h2
    by_cases h3 : oneP l o.o = 3
    · rw [if_pos h3] at h1
      have := mayStep_true l 3 x
      unfold mayStep at this
      rw [this] at h1; cases h1
    · rw [if_neg h3] at h1 h2
      obtain ⟨h4, h5⟩ := fold_one x _ h1 h2
      by_cases h0 : oneP l o.o = 0
      · rw [if_pos h0] at h4
        refine ⟨h4, fun z hz => ?_⟩
        rcases List.mem_cons.1 hz with rfl | hz
        · exact h0
        · exact h5 z hz
      · rw [if_neg h0] at h4; exact absurd h4 h0
theorem mayO_zero {l : List Ky} {x : List OpS} (h : mayO l x = 0) : goodO l x ∧ takesP x ≤ 536870912 ∧ makesP x ≤ 536870912 := by
  unfold mayO at h
  cases h1 : (x.foldl (mayStep l) (false, 0)).1 with
  | true => rw [h1] at h; simp at h
  | false =>
    rw [h1] at h
    simp only [Bool.false_eq_true, if_false] at h
    by_cases h2 : takesP x ≤ 536870912 ∧ makesP x ≤ 536870912
    · rw [if_pos h2] at h; exact ⟨(fold_one x 0 h1 h).2, h2⟩
    · rw [if_neg h2] at h; cases h
def tkI (o : Opd) : Int := if o.k = 2 then 0 else o.n
def mkI (o : Opd) : Int := if o.k = 3 then 0 else sizeO o
def sumT : List OpS → Int
  | [] => 0
  | o :: x => tkI o.o + sumT x
def sumM : List OpS → Int
  | [] => 0
  | o :: x => mkI o.o + sumM x
theorem one_facts {l : List Ky} {o : Opd} (h : oneP l o = 0) : formO o = true ∧ 1 ≤ sizeO o ∧ sizeO o ≤ 536870912 ∧ mayS l o.s = 0 ∧ mayP l o.p = 0 := by
  unfold oneP at h
  by_cases h1 : formO o = true ∧ 1 ≤ sizeO o ∧ sizeO o ≤ 536870912
  · rw [if_pos h1] at h
    by_cases h2 : mayS l o.s = 0
    · rw [if_pos h2] at h; exact ⟨h1.1, h1.2.1, h1.2.2, h2, h⟩
    · rw [if_neg h2] at h; exact absurd h h2
  · rw [if_neg h1] at h; cases h
theorem form_kinds {o : Opd} (h : formO o = true) : o.k = 1 ∨ o.k = 2 ∨ o.k = 3 := by
  unfold formO at h
  by_cases h1 : o.k = 1
  · exact .inl h1
  rw [if_neg h1] at h
  by_cases h3 : o.k = 3
  · exact .inr (.inr h3)
  rw [if_neg h3] at h
  by_cases h2 : o.k = 2
  · exact .inr (.inl h2)
  rw [if_neg h2] at h; cases h
theorem one_ks {l : List Ky} {o : Opd} (h : oneP l o = 0) : (o.k = 2 ∧ tkI o = 0 ∧ 1 ≤ mkI o ∧ mkI o ≤ 536870912) ∨ (o.k = 3 ∧ tkI o = o.n ∧ 1 ≤ o.n ∧ o.n ≤ 536870912 ∧ mkI o = 0) ∨ (o.k = 1 ∧ tkI o = o.n ∧ 1 ≤ o.n ∧ o.n ≤ 536870912 ∧ mkI o = o.n) := by
  obtain ⟨f, h1, h2, _, _⟩ := one_facts h
  unfold tkI mkI
  unfold sizeO at *
  rcases form_kinds f with hk | hk | hk <;> rw [hk] at h1 h2 ⊢ <;> simp at h1 h2 ⊢ <;> omega
theorem sums {l : List Ky} : ∀ (x : List OpS), goodO l x → 0 ≤ sumT x ∧ sumT x ≤ 536870912 * (x.length : Int) ∧ 0 ≤ sumM x ∧ sumM x ≤ 536870912 * (x.length : Int)
  | [], _ => by simp [sumT, sumM]
  | o :: x, h => by
    obtain ⟨a, b, c, d⟩ := sums x h.tail
    have := one_ks (h o (by simp))
    simp only [sumT, sumM, List.length_cons]
    push_cast
    omega
theorem fold_t {l : List Ky} : ∀ (x : List OpS) (a : Int), goodO l x → 0 ≤ a → a + 536870912 * (x.length : Int) ≤ 4611686018427387904 → x.foldl takeStep a = a + sumT x
  | [], a, _, _, _ => by simp [sumT]
  | o :: x, a, h, h0, hb => by
    have hk := one_ks (h o (by simp))
    simp only [List.length_cons] at hb
    push_cast at hb
    have e : takeStep a o = a + tkI o.o := by
      unfold takeStep
      by_cases h2 : o.o.k = 2
      · rw [if_pos h2]; unfold tkI; rw [if_pos h2]; omega
      · rw [if_neg h2]; unfold tkI; rw [if_neg h2]; exact IntWalk.i64_in _ (by omega)
    rw [List.foldl_cons, e, fold_t x _ h.tail (by omega) (by omega)]
    simp only [sumT]; omega
theorem fold_m {l : List Ky} : ∀ (x : List OpS) (a : Int), goodO l x → 0 ≤ a → a + 536870912 * (x.length : Int) ≤ 4611686018427387904 → x.foldl makeStep a = a + sumM x
  | [], a, _, _, _ => by simp [sumM]
  | o :: x, a, h, h0, hb => by
    have hk := one_ks (h o (by simp))
    have hs := (one_facts (h o (by simp))).2
    simp only [List.length_cons] at hb
    push_cast at hb
    have e : makeStep a o = a + mkI o.o := by
      unfold makeStep
      by_cases h2 : o.o.k = 3
      · rw [if_pos h2]; unfold mkI; rw [if_pos h2]; omega
      · rw [if_neg h2]; unfold mkI; rw [if_neg h2]; exact IntWalk.i64_in _ (by omega)
    rw [List.foldl_cons, e, fold_m x _ h.tail (by omega) (by omega)]
    simp only [sumM]; omega
theorem takes_sum {l : List Ky} {x : List OpS} (h : goodO l x) (hb : x.length ≤ 1048576) : takesP x = sumT x := by
  unfold takesP; rw [fold_t x 0 h (by omega) (by omega)]; omega
theorem makes_sum {l : List Ky} {x : List OpS} (h : goodO l x) (hb : x.length ≤ 1048576) : makesP x = sumM x := by
  unfold makesP; rw [fold_m x 0 h (by omega) (by omega)]; omega

def finR (n : Int) : Int → List OpS → Bool
  | _, [] => true
  | a, o :: x => if o.o.k = 2 then (decide (¬ a = n) && finR n a x) else if o.o.k = 3 ∧ a + o.o.n = n then false else finR n (a + o.o.n) x
theorem fold_fin {l : List Ky} (n : Int) : ∀ (x : List OpS) (a : Int), goodO l x → 0 ≤ a → a + 536870912 * (x.length : Int) ≤ 4611686018427387904 → (x.foldl (finalStep n) (true, a)).1 = finR n a x
  | [], a, _, _, _ => rfl
  | o :: x, a, h, h0, hb => by
    have hk := one_ks (h o (by simp))
    simp only [List.length_cons] at hb
    push_cast at hb
    rw [List.foldl_cons]
    unfold finalStep finR
    simp only [Bool.true_eq_false, if_false]
    by_cases h2 : o.o.k = 2
    · rw [if_pos h2, if_pos h2]
      by_cases ha : a = n
      · have := final_false n a x
        unfold finalStep at this
        simp only [ha] at this ⊢
        simp only [not_true_eq_false, decide_false, Bool.false_and]
        rw [this]
      · simp only [ha, not_false_eq_true, decide_true, Bool.true_and]
        exact fold_fin n x a h.tail h0 (by omega)
    · have e : IntKind.i64.wrap (a + o.o.n) = a + o.o.n := IntWalk.i64_in _ (by omega)
      rw [if_neg h2, if_neg h2, e]
      by_cases h3 : o.o.k = 3 ∧ a + o.o.n = n
      · rw [if_pos h3, if_pos h3]
        have := final_false n a x
        unfold finalStep at this
        rw [this]
      · rw [if_neg h3, if_neg h3]
        exact fold_fin n x _ h.tail (by omega) (by omega)
theorem final_r {l : List Ky} {x : List OpS} (n : Int) (h : goodO l x) (hb : x.length ≤ 1048576) : finalP n x = finR n 0 x := by
  unfold finalP; exact fold_fin n x 0 h (by omega) (by omega)
theorem longO_is {l : List Ky} {x : List OpS} {n : Int} (h : goodO l x) (hb : x.length ≤ 1048576) (h0 : 0 ≤ n) (h1 : n ≤ 4294967296) (ht : takesP x ≤ 536870912) (hm : makesP x ≤ 536870912) : longO n x = n - sumT x + sumM x := by
  have hs := sums x h
  have et := takes_sum h hb
  have em := makes_sum h hb
  unfold longO
  rw [et] at ht ⊢
  rw [em] at hm ⊢
  rw [IntWalk.i64_in (n - sumT x) (by omega), IntWalk.i64_in _ (by omega)]

/-- why a delta fits -/
theorem fits_zero {l : List Ky} {x : List OpS} {n most : Int} (h : fitsO l x n most = 0) : mayO l x = 0 ∧ 1 ≤ n ∧ n ≤ most ∧ takesP x ≤ n ∧ finalP n x = true ∧ placeP l x = true ∧ longO n x ≤ most := by
  unfold fitsO at h
  by_cases h1 : ¬ mayO l x = 0
  · rw [if_pos h1] at h; exact absurd h h1
  rw [if_neg h1] at h
  by_cases h2 : n < 1 ∨ most < n ∨ n < takesP x
  · rw [if_pos h2] at h; cases h
  rw [if_neg h2] at h
  by_cases h3 : finalP n x = false
  · rw [if_pos h3] at h; cases h
  rw [if_neg h3] at h
  by_cases h4 : placeP l x = false
  · rw [if_pos h4] at h; cases h
  rw [if_neg h4] at h
  by_cases h5 : most < longO n x
  · rw [if_pos h5] at h; cases h
  exact ⟨by omega, by omega, by omega, by omega, by simpa using h3, by simpa using h4, by omega⟩
theorem zero_fits {l : List Ky} {x : List OpS} {n most : Int} (h1 : mayO l x = 0) (h2 : 1 ≤ n) (h3 : n ≤ most) (h4 : takesP x ≤ n) (h5 : finalP n x = true) (h6 : placeP l x = true) (h7 : longO n x ≤ most) : fitsO l x n most = 0 := by
  unfold fitsO
  rw [if_neg (by simp [h1]), if_neg (by omega), if_neg (by simp [h5]), if_neg (by simp [h6]), if_neg (by omega)]

end Go.Proofs.YtfnkjcodcoehcaaGreatDoor
