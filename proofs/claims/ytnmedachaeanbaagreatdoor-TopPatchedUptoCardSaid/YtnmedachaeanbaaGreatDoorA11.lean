/- Merged texts. -/
import Derived.Test.YtnmedachaeanbaaGreatDoorA10
import Derived.Lib.AppendZeros
import Derived.Deep.RegionLaw
import Derived.Laws.CopyOwn
import Derived.Lib.Overlaps
namespace Go.Proofs.YtnmedachaeanbaaGreatDoor
set_option maxRecDepth 100000
set_option maxHeartbeats 3200000
open Go.RowKit
open Go.Lib (hid Utf8Tabs)
set_option linter.unusedVariables false
set_option linter.unusedSimpArgs false
theorem Z54 (A : Option Addr) (n c : Nat) (l : List At) (w : World) (hn : n = l.length) (h : RdAt w w.heap.size A l) (hb : n ≤ 100000000) :
 Calls Tryz.prog 125 #[.slice A n c] w (Z9d l w) := by
 cases A with
 | none =>
   have hl : l = [] := by
    cases l with
    | nil => rfl
    | cons a l => obtain ⟨ad, e, _⟩ := h (by simp); cases e
   subst hl
   have hn0 : n = 0 := by simpa using hn
   subst hn0
   clear hn
   have hq := fun (w : World) => Lib.run_eql_slice_nil (P := Tryz.prog) w 34 108 none 0 c 0 0 Tryz.slAt
   go_enter Tryz.func125, Tryz.ntmps125
   go_wp2_with (fail)
   go_ret
   exact ⟨none, 0, rfl, Ow.nil _ _, Below.refl _ _⟩
 | some ad =>
   have N := hid hn
   clear hn
   have hq := fun (w : World) => Lib.run_eql_slice_nil (P := Tryz.prog) w 34 108 (some ad) n c 0 0 Tryz.slAt
   go_enter Tryz.func125, Tryz.ntmps125
   go_wp2_with (first
    | (at_builtin; refine Z2G (m := l) rfl (.tmp 5) (.tmp 6) rfl rfl (by exact Ow.empty _ w.heap.size _) _ _ _ _ rfl N.out (by exact h.ext (Z0c w _)) (by have := N.out; simp only [List.length_nil]; omega) (by simp) ?_; intro v' w' hown' hgr hv'))
   rw [List.nil_append] at hown'
   obtain ⟨A', c', rfl, _, _⟩ := hown'.form
   go_ret
   exact ⟨A', c', rfl, hown', (Z0c w _).grown hgr (by simp) (fun k hk => by cases hk)⟩
theorem Z3T (A : Option Addr) (n c : Nat) (l : List Ch) (w : World) (hn : n = l.length) (h : RdCh w w.heap.size A l) (hb : n ≤ 100000000) :
 Calls Tryz.prog 145 #[.slice A n c] w (Y2p l w) := by
 cases A with
 | none =>
   have hl : l = [] := by
    cases l with
    | nil => rfl
    | cons a l => obtain ⟨ad, e, _⟩ := h (by simp); cases e
   subst hl
   have hn0 : n = 0 := by simpa using hn
   subst hn0
   clear hn
   have hq := fun (w : World) => Lib.run_eql_slice_nil (P := Tryz.prog) w 24 75 none 0 c 0 0 Tryz.slCh
   go_enter Tryz.func145, Tryz.ntmps145
   go_wp2_with (fail)
   go_ret
   exact ⟨none, 0, rfl, Ow.nil _ _, Below.refl _ _⟩
 | some ad =>
   have N := hid hn
   clear hn
   have hq := fun (w : World) => Lib.run_eql_slice_nil (P := Tryz.prog) w 24 75 (some ad) n c 0 0 Tryz.slCh
   go_enter Tryz.func145, Tryz.ntmps145
   go_wp2_with (first
    | (at_builtin; refine Y5u (m := l) rfl (.tmp 5) (.tmp 6) rfl rfl (by exact Ow.empty _ w.heap.size _) _ _ _ _ rfl N.out (by exact h.ext (Z0c w _)) (by have := N.out; simp only [List.length_nil]; omega) (by simp) ?_; intro v' w' hown' hgr hv'))
   rw [List.nil_append] at hown'
   obtain ⟨A', c', rfl, _, _⟩ := hown'.form
   go_ret
   exact ⟨A', c', rfl, hown', (Z0c w _).grown hgr (by simp) (fun k hk => by cases hk)⟩
theorem Z94 {x : Int} : ∀ {keys : List Int}, keys.Pairwise (· < ·) → keys.length ≤ (keys.filter (fun k => decide (k ≠ x))).length + 1
 | [], _ => by simp
 | a :: r, h => by
   have h1 := List.pairwise_cons.1 h
   by_cases e : a = x
   ·have hf : (a :: r).filter (fun k => decide (k ≠ x)) = r := by
     rw [List.filter_cons, if_neg (by simp [e])]
     refine List.filter_eq_self.2 fun b hb => ?_
     have := h1.1 b hb
     simp; omega
    rw [hf]; simp
   ·rw [List.filter_cons, if_pos (by simp [e])]
    have := Z94 h1.2 (x := x)
    simp only [List.length_cons]; omega
theorem Y4b {l : List Ky} : ∀ {keys : List Int}, keys.Pairwise (· < ·) → (∀ k ∈ keys, (Z0N l k).isSome = true) → keys.length ≤ l.length := by
 induction l with
 | nil =>
   intro keys _ h
   cases keys with
   | nil => simp
   | cons a r => have := h a (by simp); simp [Z0N] at this
 | cons x l ih =>
   intro keys hp h
   have h1 := ih (keys := keys.filter (fun k => decide (k ≠ x.id))) (List.Pairwise.filter _ hp) (fun k hk => by
    obtain ⟨hk1, hk2⟩ := List.mem_filter.1 hk
    have hk2 : ¬ k = x.id := by simpa using hk2
    have h3 := h k hk1
    have h4 : ¬ x.id = k := fun e => hk2 e.symm
    simpa [Z0N, h4] using h3)
   have h2 := Z94 (x := x.id) hp
   simp only [List.length_cons]; omega
theorem Z8g {l : List Ky} {id : Int} {v : V} (h : Z2K l id v = true) : (Z0N l id).isSome = true := by
 unfold Z2K at h
 cases hq : Z0N l id with
 | none => rw [hq] at h; cases h
 | some k => rfl
theorem Y2r {l : List Ky} {p : List At} (hp : Z1D p = true) (h : ∀ c ∈ p, Z1P l c = true) : p.length ≤ l.length := by
 have h1 := Z0P.1 hp
 have h2 : (p.map (·.key)).Pairwise (· < ·) := List.pairwise_map.2 h1
 have h3 := Y4b (l := l) h2 (fun k hk => by
  obtain ⟨c, hc, rfl⟩ := List.mem_map.1 hk
  exact Z8g (h c hc))
 simpa using h3
theorem stayA {l : List Ky} (hl : l.length ≤ 64) {p : List At} (hs : Srt At.key p) (h : ∀ c ∈ p, okA c = true ∧ Z1P l c = true) : mayS l p = 0 := by
 have h1 := Y2r (l := l) (Z0P.2 hs) (fun c hc => (h c hc).2)
 unfold mayS
 rw [if_neg (by omega), if_pos ⟨Z0P.2 hs, List.all_eq_true.2 (fun c hc => (h c hc).1)⟩, if_pos (List.all_eq_true.2 (fun c hc => (h c hc).2))]
def Y1b (l : List At) (a : At) : List At := Z0K [⟨a.key, false, a.v⟩] l
theorem Z0v {B : Nat} {a b : World} (h : Below B a b) : Below B a b.drew := ⟨h.1, h.2, h.3, h.4, h.5⟩
theorem Y1c (A B : Option Addr) (n m c d : Nat) (l k : List At) (w : World) (hn : n = l.length) (hm : m = k.length) (h1 : RdAt w w.heap.size A l) (h2 : RdAt w w.heap.size B k) (hb : n ≤ 140737488355328) (hb2 : m ≤ 140737488355328) :
 Calls Tryz.prog 156 #[.slice A n c, .slice B m d] w (Z84 (.bool (decide (l = k))) w) := by
 have N := hid hn
 have M := hid hm
 generalize hR : decide (l = k) = R
 have HR := hid hR
 clear hn hR hm
 by_cases hnm : (n : Int) = m
 ·have hnm' : n = m := by omega
  subst hnm'
  clear hnm
  go_enter Tryz.func156, Tryz.ntmps156
  go_wp2_with (fail)
  go_loopg [13] n (fun g iv wr => ∃ i : Nat, i ≤ n ∧ g = n - i ∧ iv = .int .i64 (i : Int) ∧ (∃ d, wr = w.drewN d) ∧ Hid (decide (l.drop i = k.drop i) = R))
  case atStart => exact ⟨0, by omega, rfl, rfl, ⟨0, rfl⟩, hid (by rw [List.drop_zero, List.drop_zero]; exact HR.out)⟩
  case round =>
   obtain ⟨i, hi, hg, rfl, ⟨q, rfl⟩, HI⟩ := hrel
   have HG := hid hg
   clear hg HR
   by_cases hlt : i < n
   ·have hl1 : i < l.length := by have := N.out; omega
    have hl2 : i < k.length := by have := M.out; omega
    obtain ⟨ad, x, rfl, _, hd1, _, hc1⟩ := h1.el hl1
    obtain ⟨ad2, y, rfl, _, hd2, _, hc2⟩ := h2.el hl2
    have HI' : Hid (decide (x :: l.drop (i + 1) = y :: k.drop (i + 1)) = R) := hid (by rw [← HI.out, hd1, hd2])
    clear HI hd1 hd2
    obtain ⟨x1, x2, x3, x4, x5⟩ := x
    obtain ⟨y1, y2, y3, y4, y5⟩ := y
    obtain ⟨r0, r1, r2, r3, r4⟩ := Z1b hc1
    obtain ⟨s0, s1, s2, s3, s4⟩ := Z1b hc2
    by_cases hxy : (⟨x1, ⟨x2, x3, x4, x5⟩⟩ : At) = ⟨y1, ⟨y2, y3, y4, y5⟩⟩
    ·have hq := Z9N hxy
     have HXY := hid hxy
     clear hxy
     go_wp2_with (go_quiet (fail))
     go_roundg (n - (i + 1))
     case measure => have := HG.out; omega
     case rel => exact ⟨i + 1, by omega, rfl, by go_num, ⟨_, rfl⟩, hid (by rw [← HI'.out]; simp only [List.cons.injEq, HXY.out, true_and])⟩
    ·have hq := Z9O hxy
     have HXY := hid hxy
     clear hxy
     go_wp2_with (go_quiet (fail))
     go_ret
     exact ⟨Z0g (by rw [← HI'.out]; exact (decide_eq_false fun e => HXY.out (List.cons.inj e).1).symm), _, World.drewN_drewN _ _ _⟩
   ·go_wp2_with (fail)
    go_ret
    exact ⟨Z0g (by rw [← HI.out, List.drop_eq_nil_of_le (by have := N.out; omega), List.drop_eq_nil_of_le (by have := M.out; omega)]; rfl), _, rfl⟩
 ·have hne : ((n : Int) == m) = false := beq_eq_false_iff_ne.2 hnm
  go_enter Tryz.func156, Tryz.ntmps156
  go_wp2_with (fail)
  go_ret
  refine ⟨Z0g ?_, 0, rfl⟩
  rw [← HR.out]
  refine (decide_eq_false fun e => ?_).symm
  have h3 := N.out
  have h4 := M.out
  rw [e] at h3
  omega
theorem Z4e (A B : Option Addr) (n m c d : Nat) (l k : List At) (w : World) (hn : n = l.length) (hm : m = k.length) (h1 : RdAt w w.heap.size A l) (h2 : RdAt w w.heap.size B k) (hb : n ≤ 140737488355328) (hb2 : m ≤ 140737488355328) :
 Calls Tryz.prog 73 #[.slice A n c, .slice B m d] w (Z84 (.bool (decide (l = k))) w) := by
 have N := hid hn
 have M := hid hm
 clear hn hm
 go_enter Tryz.func73, Tryz.ntmps73
 go_wp2_with (go_at_call 156; refine (Y1c A B n m c d l k _ N.out M.out h1 h2 hb hb2).mono ?_; rintro e w' ⟨rfl, q, rfl⟩)
 go_ret
 exact ⟨rfl, _, rfl⟩
theorem Z4f (A : Option Addr) (n c : Nat) (l : List At) (w : World) (hn : n = l.length) (h : RdAt w w.heap.size A l) (hb : n ≤ 100000000) :
 Calls Tryz.prog 139 #[.slice A n c] w (Z9d l w) := by
 have N := hid hn
 clear hn
 go_enter Tryz.func139, Tryz.ntmps139
 go_wp2_with (go_at_call 125; refine Hid.out ?_)
 refine hid ?_
 refine (Z54 A n c l w N.out h hb).mono ?_
 rintro e w2 ⟨A2, c2, rfl, ho, hb2⟩
 generalize hq : l.length = q at *
 go_wp2_with (fail)
 go_ret
 exact ⟨A2, c2, by rw [hq]; rfl, by rw [hq]; exact ho, hb2⟩
theorem Z95 {l : List At} (h : Z1D l = true) (a : At) :
 Z1D (Y1b l a) = true ∧ (∀ k, lk At.key (Y1b l a) k = if a.key = k then some a else lk At.key l k) ∧ (Y1b l a).length ≤ l.length + 1 := by
 have hs := Z0P.1 h
 have hp : Srt Ch.key [(⟨a.key, false, a.v⟩ : Ch)] := (Z1z Ch.key).2 ⟨by simp, Srt.nil Ch.key⟩
 obtain ⟨h1, h2, _, h4⟩ := Z1x hp hs
 refine ⟨Z0P.2 h1, fun k => ?_, by unfold Y1b; simp at h4; omega⟩
 unfold Y1b
 rw [h2 k, Z0W, Z91]
 simp only
 split <;> simp [Z2C]
def Z1T (l : List Ky) (b : Bool) (p : List At) : List At := p.filter (fun c => Z1v l b c.key)
theorem Y2s {l : List Ky} {id : Int} (h : (Z0N l id).isSome = true) : Z1v l true id = !Z1v l false id := by
 unfold Z1v
 cases hq : Z0N l id with
 | none => rw [hq] at h; cases h
 | some k => simp only; cases k.block <;> rfl
theorem Y2t {l : List Ky} {p : List At} (ht : ∀ a ∈ p, Z1P l a = true) : (Z1T l false p).length + (Z1T l true p).length = p.length := by
 induction p with
 | nil => rfl
 | cons c p ih =>
   have h1 := ih (fun a ha => ht a (List.mem_cons_of_mem _ ha))
   have h3 := Y2s (Z8g (ht c (by simp)))
   unfold Z1T at *
   rw [List.filter_cons, List.filter_cons]
   cases h4 : Z1v l false c.key <;> rw [h4] at h3 <;> simp [h3] <;> omega
theorem Z9e (s b1 b2 : Nat) (l : List Ky) (b : Bool) (x1 x2 x3 x4 : Int) (x5 : ByteArray) (w : World) (hS : Sch w s l)
 (h1 : w.heap[b1]? = some (.cells #[.pointer (some ⟨s, 0, none⟩)] 29 (0, 0))) (h2 : w.heap[b2]? = some (.cells #[.bool b] 4 (0, 0))) :
 Calls Tryz.prog 126 #[.agg #[.int .i64 x1, .int .u8 x2, .int .i64 x3, .int .u64 x4, .string x5], .pointer (some ⟨b1, 0, none⟩), .pointer (some ⟨b2, 0, none⟩)] w fun e w' => e = .returned (.bool (!Z1v l b x1)) ∧ Below w.heap.size w w' := by
 have y0 := Z0c w (.cells #[.int .i64 x1, .int .u8 x2, .int .i64 x3, .int .u64 x4, .string x5] 108)
 have c1 := Z2u ((y0.block b1 (Z0b h1)).trans h1)
 have g2 := (y0.block b2 (Z0b h2)).trans h2
 have HS := hid (hS.ext y0)
 have G2 := hid g2
 clear g2 hS
 go_enter Tryz.func126, Tryz.ntmps126
 go_wp2_with (go_at_call 127; refine Hid.out ?_)
 refine hid ?_
 generalize hw0 : w.alloc _ = w0 at *
 clear hw0
 refine (Z36 s l x1 w0 HS.out).mono ?_
 rintro e w1 ⟨i, c, kd, d, g, q, ok, rfl, hk, hb, y1⟩
 have y2 := Z0c w1 (.cells #[.int .i64 i, .bool c, .int .u8 kd, .bool d, .bool g, .int .i64 q] 78)
 have g3 := (y1.block b2 (Z0b G2.out)).trans G2.out
 have c2 := Z2u ((y2.block b2 (Z0b g3)).trans g3)
 have yy := Z0a y0 (Z0a y1 y2)
 have HB := hid hb
 have HK := hid hk
 clear g3 hk hb
 cases ok with
 | false =>
   have HE : Hid (Z1v l b x1 = false) := hid (by
    have h := HB.out
    unfold Z1v
    cases hq : Z0N l x1 with
    | none => rfl
    | some k => rw [hq] at h; cases h)
   go_wp2_with (fail)
   go_ret
   exact ⟨Z0g (by rw [HE.out]; rfl), yy⟩
 | true =>
   have HE : Hid (Z1v l b x1 = (c == b)) := hid (by
    have h := HB.out
    have h2 := HK.out
    unfold Z1v
    cases hq : Z0N l x1 with
    | none => rw [hq] at h; cases h
    | some k => rw [hq] at h2; simp at h2; subst h2; rfl)
   go_wp2_with (fail)
   go_ret
   exact ⟨Z0g (by rw [HE.out] <;> (cases c <;> cases b <;> rfl)), yy⟩
theorem Z8h (s : Nat) (l : List Ky) (b : Bool) (A : Option Addr) (n c : Nat) (p : List At) (w : World) (hn : n = p.length) (h : RdAt w w.heap.size A p) (hb : n ≤ 100000000) (hS : Sch w s l) :
 Calls Tryz.prog 55 #[.pointer (some ⟨s, 0, none⟩), .slice A n c, .bool b] w (Z9d (Z1T l b p) w) := by
 have N := hid hn
 have ya := Z0c w (.cells #[.pointer (some ⟨s, 0, none⟩)] 29)
 have yb := Z0c (w.alloc (.cells #[.pointer (some ⟨s, 0, none⟩)] 29)) (.cells #[.bool b] 4)
 have g1 := heap_alloc_new w (.cells #[.pointer (some ⟨s, 0, none⟩)] 29)
 have g2 := heap_alloc_new (w.alloc (.cells #[.pointer (some ⟨s, 0, none⟩)] 29)) (.cells #[.bool b] 4)
 have G1 := hid ((yb.block w.heap.size (by simp)).trans g1)
 rw [World.size_alloc] at g2
 have G2 := hid g2
 have y := Z0a ya yb
 have hh := h.ext y
 have HS := hid (hS.ext y)
 clear hn g1 g2 ya yb h hS
 go_enter Tryz.func55, Tryz.ntmps55
 go_wp2_with (go_at_call 125; refine Hid.out ?_)
 refine hid ?_
 refine (Z54 A n c p _ N.out hh hb).mono ?_
 rintro e w1 ⟨A', c', rfl, hown, y1⟩
 have HOW := hid hown
 have hsz2 : ((w.alloc (.cells #[.pointer (some ⟨s, 0, none⟩)] 29)).alloc (.cells #[.bool b] 4)).heap.size = w.heap.size + 2 := by simp
 have G1' := hid ((y1.block w.heap.size (by rw [hsz2]; omega)).trans G1.out)
 have G2' := hid ((y1.block (w.heap.size + 1) (by rw [hsz2]; omega)).trans G2.out)
 have hb1 : w.heap.size + 2 ≤ w1.heap.size := by have := y1.size; omega
 have HSZ := hid hsz2
 clear hown hsz2
 go_wp2_with (go_at_call 124; refine Hid.out ?_)
 refine hid ?_
 refine (Z53 w.heap.size (w.heap.size + 1) (fun c => !Z1v l b c.key) A' p.length c' _ p w1 HOW.out (by rw [HSZ.out]; exact hb1) (by have := N.out; omega) rfl ?cl).mono ?_
 case cl =>
  intro x1 x2 x3 x4 x5 w' hb'
  refine Z9e s _ _ l b x1 x2 x3 x4 x5 w' (HS.out.ext (y1.trans hb')) ?_ ?_
  ·exact (hb'.block _ (by rw [HSZ.out]; omega)).trans G1'.out
  ·exact (hb'.block _ (by rw [HSZ.out]; omega)).trans G2'.out
 rintro e w2 ⟨A2, c2, rfl, hown2, y2⟩
 have yy : Below w.heap.size w w2 := Z0a y (y1.trans y2)
 have hf : p.filter (fun x => !!Z1v l b x.key) = Z1T l b p := by simp [Z1T]
 rw [hf] at hown2 ⊢
 have HO2 := hid (hown2.base_le (B := w.heap.size) (by rw [HSZ.out]; omega))
 clear hown2 hf
 go_wp2_with (fail)
 go_ret
 exact ⟨A2, c2, rfl, HO2.out, yy⟩
def Z2y (l : List Ky) (o : Opd) : Bool :=
 if o.k = 2 ∧ 0 < o.s.length then
  !((decide (0 < (Z1T l true o.s).length) || decide (0 < nlR o.r)) && (decide ((Z1T l true o.s).length < o.s.length) || decide (nlR o.r < o.r.length)))
 else true
def Z2i (l : List Ky) (x : List OpS) : Bool := x.all (fun o => Z2y l o.o)
theorem Y1d {l : List Ky} {x : List OpS} {m : Nat} {o : OpS} {R : Bool} (hd : x.drop m = o :: x.drop (m + 1)) (h : Z2i l (x.drop m) = R) : (Z2y l o.o && Z2i l (x.drop (m + 1))) = R := by
 rw [hd] at h; exact h
theorem Z9f (sc : Nat) (l : List Ky) (A : Option Addr) (n c : Nat) (x : List OpS) (w : World) (hn : n = x.length) (h : RdOp w w.heap.size A x) (hb : n ≤ 140737488355328) (hS : Sch w sc l) (ho : ∀ o ∈ x, okOp o.o) :
 Calls Tryz.prog 181 #[.pointer (some ⟨sc, 0, none⟩), .slice A n c] w fun e w' => e = .returned (.bool (Z2i l x)) ∧ Below w.heap.size w w' := by
 have N := hid hn
 generalize hR : Z2i l x = R
 have HR := hid hR
 clear hn hR
 go_enter Tryz.func181, Tryz.ntmps181
 go_wp2_with (fail)
 go_loopg [11] n (fun g iv wr => ∃ (m : Nat), m ≤ n ∧ g = n - m ∧ iv = .int .i64 (m : Int) ∧ Below w.heap.size w wr ∧ Hid (Z2i l (x.drop m) = R))
 case atStart => exact ⟨0, by omega, rfl, rfl, Below.refl _ _, hid (by rw [List.drop_zero]; exact HR.out)⟩
 case round =>
  obtain ⟨m, hm, hg, rfl, y, HI⟩ := hrel
  have HG := hid hg
  clear hg HR
  by_cases hlt : m < n
  ·have hl1 : m < x.length := by have := N.out; omega
   obtain ⟨ad, o, had0, had, hd1, hx1, hc0⟩ := (h.1.below y (Nat.le_refl _)).el hl1
   subst had0
   have hmem := List.mem_of_getElem? hx1
   obtain ⟨q1, q2, q3, q4, q5⟩ := ho o hmem
   obtain ⟨g1, g2, g3⟩ := h.2 o hmem
   have HI2 := hid (Y1d hd1 HI.out)
   obtain ⟨⟨k, nn, r, s, p⟩, Ar, cr, As, cs, Ap, cp⟩ := o
   obtain ⟨r0, r1, r2, r3, r4⟩ := Z0x hc0
   simp only at g1 g2 g3 q3 q4 q5
   have y2 := Z0a y (Z0c wr (.cells #[.int .u8 k, .int .i64 nn, .slice Ar r.length cr, .slice As s.length cs, .slice Ap p.length cp] 36))
   have hbx := heap_alloc_new wr (.cells #[.int .u8 k, .int .i64 nn, .slice Ar r.length cr, .slice As s.length cs, .slice Ap p.length cp] 36)
   have hw2 : IntKind.i64.wrap ((m:Int) + 1) = (m : Int) + 1 := IntWalk.i64_in _ (by omega)
   have HBX := hid hbx
   clear hc0 hd1 hx1 hmem HI hbx
   by_cases hk : k = 2
   ·subst hk
    by_cases hs : s.length = 0
    ·have hs0 : ((s.length : Int) == 0) = true := by rw [hs]; rfl
     have HP : Hid (Z2y l ⟨2, nn, r, s, p⟩ = true) := hid (by unfold Z2y; rw [if_neg (by simp only; omega)])
     clear hs
     go_wp2_with (fail)
     go_roundg (n - (m + 1))
     case measure => have := HG.out; omega
     case rel => exact ⟨m + 1, by omega, rfl, by go_num, y2, hid (by rw [← HI2.out, HP.out, Bool.true_and])⟩
    ·have hs0 : ((s.length : Int) == 0) = false := beq_eq_false_iff_ne.2 (fun e => hs (by omega))
     obtain ⟨ns, hns⟩ : ∃ X, s.length = X := ⟨_, rfl⟩
     obtain ⟨nr, hnr⟩ : ∃ X, r.length = X := ⟨_, rfl⟩
     obtain ⟨np, hnp⟩ : ∃ X, p.length = X := ⟨_, rfl⟩
     have NS := hid hns
     have NR := hid hnr
     rw [hns] at r3 hs hs0 q4
     rw [hnr] at r2 q3
     rw [hnp] at r4
     rw [hns, hnr, hnp] at y2
     have HBX2 := HBX.out
     rw [hns, hnr, hnp] at HBX2
     have HBX := hid HBX2
     clear hns hnr hnp HBX2
     go_wp2_with (fail)
     obtain ⟨B, hB⟩ : ∃ X, wr.heap.size = X := ⟨_, rfl⟩
     rw [hB] at HBX ⊢
     generalize wr.alloc (.cells #[.int .u8 2, .int .i64 nn, .slice Ar nr cr, .slice As ns cs, .slice Ap np cp] 36) = w5 at *
     have hS5 := hS.ext y2
     have ha5 := g2.ext y2
     have hr5 := g1.ext y2
     obtain ⟨c0, c1, c2, c3, c4⟩ := Z0V HBX.out
     have hBl := Z0b HBX.out
     have yd : Below w5.heap.size w5 w5.drew := (Below.refl _ _).drew
     have hS6 := hS5.ext yd
     have ha6 := ha5.ext yd
     have hr6 := hr5.ext yd
     have HBX6 := hid ((yd.block B hBl).trans HBX.out)
     have hBl6 := Z0b HBX6.out
     clear r0 r1 r2 r3 r4 c0 c1 c4
     go_region_held3 (fun w' => w'.cell? ⟨B, 2, none⟩ = some (.slice Ar nr cr) ∧ w'.cell? ⟨B, 3, none⟩ = some (.slice As ns cs))
      (go_keep) (first
       | (go_at_call 55
          with_reducible refine (Z8h sc l true As ns cs s w5.drew NS.out.symm ha6 q4 hS6).mono ?_
          rintro e w6 ⟨A2, c2', rfl, ho2, y6⟩
          obtain ⟨f0, f1, f2, f3, f4⟩ := Z0V ((y6.block B hBl6).trans HBX6.out))
       | (go_at_call 259
          with_reducible refine (Z41 Ar nr cr r w5.drew NR.out.symm hr6 (by omega)).mono ?_
          rintro e w6 ⟨rfl, rfl⟩)
       | (go_at_call 259
          with_reducible refine (Z41 Ar nr cr r w6 NR.out.symm (hr6.ext y6) (by omega)).mono ?_
          rintro e w7 ⟨rfl, rfl⟩))
     all_goals
      have yy := Z0a y2 (Z0a yd y6)
      have HV : Hid (Z2y l ⟨2, nn, r, s, p⟩ = !((decide (0 < (Z1T l true s).length) || decide (0 < nlR r)) && (decide ((Z1T l true s).length < ns) || decide (nlR r < nr)))) := hid (by
       unfold Z2y
       rw [if_pos (show (2 : Int) = 2 ∧ 0 < s.length from ⟨rfl, by have := NS.out; omega⟩)]
       simp only [NS.out, NR.out])
      generalize (Z1T l true s).length = nb at *
      generalize nlR r = nl at *
      clear ho2 f0 f1 f4
      by_cases t1 : (0 : Int) < (nb : Int)
      ·have t1' : 0 < nb := by omega
       by_cases t3 : (nb : Int) < (ns : Int)
       ·have t3' : nb < ns := by omega
        go_wp2_with (fail)
        go_ret
        exact ⟨Z0g (by rw [← HI2.out, HV.out]; simp [t1', t3']), yy⟩
       by_cases t4 : (nl : Int) < (nr : Int)
       ·have t4' : nl < nr := by omega
        go_wp2_with (fail)
        go_ret
        exact ⟨Z0g (by rw [← HI2.out, HV.out]; simp [t1', t4']), yy⟩
       have t3' : ¬ nb < ns := by omega
       have t4' : ¬ nl < nr := by omega
       go_wp2_with (fail)
       go_roundg (n - (m + 1))
       case measure => have := HG.out; omega
       case rel => exact ⟨m + 1, by omega, rfl, by go_num, yy, hid (by rw [← HI2.out, HV.out]; simp [t3', t4'])⟩
      by_cases t2 : (0 : Int) < (nl : Int)
      ·have t2' : 0 < nl := by omega
       have t3 : (nb : Int) < (ns : Int) := by omega
       have t3' : nb < ns := by omega
       go_wp2_with (fail)
       go_ret
       exact ⟨Z0g (by rw [← HI2.out, HV.out]; simp [t2', t3']), yy⟩
      have t1' : nb = 0 := by omega
      have t2' : nl = 0 := by omega
      go_wp2_with (fail)
      go_roundg (n - (m + 1))
      case measure => have := HG.out; omega
      case rel => exact ⟨m + 1, by omega, rfl, by go_num, yy, hid (by rw [← HI2.out, HV.out]; simp [t1', t2'])⟩
   ·have hb2 : (k == 2) = false := beq_eq_false_iff_ne.2 hk
    have HP : Hid (Z2y l ⟨k, nn, r, s, p⟩ = true) := hid (by unfold Z2y; rw [if_neg (by simp only; omega)])
    clear hk
    go_wp2_with (fail)
    go_roundg (n - (m + 1))
    case measure => have := HG.out; omega
    case rel => exact ⟨m + 1, by omega, rfl, by go_num, y2, hid (by rw [← HI2.out, HP.out, Bool.true_and])⟩
  ·go_wp2_with (fail)
   go_ret
   refine ⟨Z0g ?_, y⟩
   rw [← HI.out, List.drop_eq_nil_of_le (by have := N.out; omega)]
   rfl
def Z4I (n : Int) (x : List OpS) : Int := IntKind.i64.wrap (IntKind.i64.wrap (n - Z1k x) + Z1F x)
def Z3g (l : List Ky) (x : List OpS) (n most : Int) : Int :=
 if ¬ mayO l x = 0 then mayO l x
 else if n < 1 ∨ most < n ∨ n < Z1k x then 5
 else if Z3m n x = false then 6
 else if Z2i l x = false then 7
 else if most < Z4I n x then 8 else 0
theorem Y2u (sc : Nat) (l : List Ky) (A : Option Addr) (n c : Nat) (x : List OpS) (lim most : Int) (w : World) (hn : n = x.length) (h : RdOp w w.heap.size A x) (hb : n ≤ 140737488355328) (hS : Sch w sc l) (ho : ∀ o ∈ x, okOp o.o) (hT : Utf8Tabs 0 1 w) :
 Calls Tryz.prog 96 #[.pointer (some ⟨sc, 0, none⟩), .slice A n c, .int .i64 lim, .int .i64 most] w fun e w' => e = .returned (.int .i64 (Z3g l x lim most)) ∧ Below w.heap.size w w' := by
 have N := hid hn
 obtain ⟨R, hR⟩ : ∃ X, Z3g l x lim most = X := ⟨_, rfl⟩
 rw [hR]
 unfold Z3g at hR
 have HR := hid hR
 clear hn hR
 have y := Below.refl w.heap.size w
 go_enter Tryz.func96, Tryz.ntmps96
 go_wp2_with (go_at_call 86; refine Hid.out ?_)
 refine hid ?_
 refine (Z5t sc l A n c x w N.out h hb hS ho hT).mono ?_
 rintro e w1 ⟨rfl, y1⟩
 replace y := Z0a y y1
 clear y1
 generalize mayO l x = E at HR ⊢
 by_cases hE : E = 0
 rotate_left
 ·have hne : (E == 0) = false := beq_eq_false_iff_ne.2 hE
  have HE : Hid (E = R) := hid (by rw [← HR.out, if_pos hE])
  clear hE
  go_wp2_with (fail)
  go_ret
  exact ⟨Z0t HE.out, y⟩
 subst hE
 have HR2 : Hid ((if lim < 1 ∨ most < lim ∨ lim < Z1k x then 5 else if Z3m lim x = false then 6 else if Z2i l x = false then 7 else if most < Z4I lim x then 8 else 0) = R) := hid (by rw [← HR.out, if_neg (show ¬ ¬ ((0 : Int) = 0) by simp)])
 clear HR
 by_cases h1 : lim < 1
 ·go_wp2_with (fail)
  go_ret
  exact ⟨Z0t (by rw [← HR2.out, if_pos (.inl h1)]), y⟩
 by_cases h2 : most < lim
 ·go_wp2_with (fail)
  go_ret
  exact ⟨Z0t (by rw [← HR2.out, if_pos (.inr (.inl h2))]), y⟩
 go_wp2_with (go_at_call 81; refine Hid.out ?_)
 refine hid ?_
 refine (Z38 A n c x _ N.out (h.ext y).1 hb).mono ?_
 rintro e w2 ⟨rfl, y1⟩
 replace y := Z0a y y1
 clear y1
 obtain ⟨T, hT'⟩ : ∃ X, Z1k x = X := ⟨_, rfl⟩
 rw [hT'] at HR2 ⊢
 have HTK := hid hT'
 clear hT'
 by_cases h3 : lim < T
 ·go_wp2_with (fail)
  go_ret
  exact ⟨Z0t (by rw [← HR2.out, if_pos (.inr (.inr h3))]), y⟩
 have HR3 : Hid ((if Z3m lim x = false then 6 else if Z2i l x = false then 7 else if most < Z4I lim x then 8 else 0) = R) := hid (by rw [← HR2.out, if_neg (show ¬ (lim < 1 ∨ most < lim ∨ lim < T) by omega)])
 clear HR2
 go_wp2_with (go_at_call 180; refine Hid.out ?_)
 refine hid ?_
 refine (Y18 A n c x lim _ N.out (h.ext y).1 hb).mono ?_
 rintro e w3 ⟨rfl, y1⟩
 replace y := Z0a y y1
 clear y1
 generalize Z3m lim x = F at HR3 ⊢
 cases F with
 | false =>
   go_wp2_with (fail)
   go_ret
   exact ⟨Z0t (by rw [← HR3.out]; simp), y⟩
 | true =>
   have HR4 : Hid ((if Z2i l x = false then 7 else if most < Z4I lim x then 8 else 0) = R) := hid (by rw [← HR3.out, if_neg (show ¬ (true = false) by simp)])
   clear HR3
   go_wp2_with (go_at_call 181; refine Hid.out ?_)
   refine hid ?_
   refine (Z9f sc l A n c x _ N.out (h.ext y) hb (hS.ext y) ho).mono ?_
   rintro e w4 ⟨rfl, y1⟩
   replace y := Z0a y y1
   clear y1
   generalize Z2i l x = G at HR4 ⊢
   cases G with
   | false =>
     go_wp2_with (fail)
     go_ret
     exact ⟨Z0t (by rw [← HR4.out]; simp), y⟩
   | true =>
     have HR5 : Hid ((if most < Z4I lim x then 8 else 0) = R) := hid (by rw [← HR4.out, if_neg (show ¬ (true = false) by simp)])
     clear HR4
     go_wp2_with (go_at_call 81; refine Hid.out ?_)
     refine hid ?_
     refine (Z38 A n c x _ N.out (h.ext y).1 hb).mono ?_
     rintro e w5 ⟨rfl, y1⟩
     replace y := Z0a y y1
     clear y1
     rw [HTK.out]
     obtain ⟨D, hD⟩ : ∃ D, IntKind.i64.wrap (lim - T) = D := ⟨_, rfl⟩
     go_wp2_with (go_at_call 82; refine Hid.out ?_)
     refine hid ?_
     refine (Z5P A n c x _ N.out (h.ext y).1 hb).mono ?_
     rintro e w6 ⟨rfl, y1⟩
     replace y := Z0a y y1
     clear y1
     obtain ⟨U, hU⟩ : ∃ X, Z1F x = X := ⟨_, rfl⟩
     rw [hU]
     obtain ⟨G, hG⟩ : ∃ G, IntKind.i64.wrap (D + U) = G := ⟨_, rfl⟩
     have HLO : Hid (Z4I lim x = G) := hid (by unfold Z4I; rw [HTK.out, hD, hU, hG])
     clear hU
     by_cases h5 : most < G
     ·go_wp2_with (fail)
      go_ret
      exact ⟨Z0t (by rw [← HR5.out, HLO.out, if_pos h5]), y⟩
     ·go_wp2_with (fail)
      go_ret
      exact ⟨Z0t (by rw [← HR5.out, HLO.out, if_neg (show ¬ most < G by omega)]), y⟩
def goodO (l : List Ky) (x : List OpS) : Prop := ∀ o ∈ x, oneP l o.o = 0
theorem goodO.tail {l : List Ky} {o : OpS} {x : List OpS} (h : goodO l (o :: x)) : goodO l x := fun z hz => h z (List.mem_cons_of_mem _ hz)
theorem Z96 {l : List Ky} : ∀ (x : List OpS) (a : Int), (x.foldl (Z07 l) (false, a)).1 = false → (x.foldl (Z07 l) (false, a)).2 = 0 → a = 0 ∧ goodO l x
 | [], a, _, h => ⟨h, fun z hz => by cases hz⟩
 | o :: x, a, h1, h2 => by
   rw [List.foldl_cons] at h1 h2
   unfold Z07 at h1 h2
   simp only [Bool.false_eq_true, if_false] at h1 h2
   by_cases h3 : oneP l o.o = 3
   ·rw [if_pos h3] at h1
    have := Z3p l 3 x
    unfold Z07 at this
    rw [this] at h1; cases h1
   ·rw [if_neg h3] at h1 h2
    obtain ⟨h4, h5⟩ := Z96 x _ h1 h2
    by_cases h0 : oneP l o.o = 0
    ·rw [if_pos h0] at h4
     refine ⟨h4, fun z hz => ?_⟩
     rcases List.mem_cons.1 hz with rfl | hz
     ·exact h0
     ·exact h5 z hz
    ·rw [if_neg h0] at h4; exact absurd h4 h0
theorem Z97 {l : List Ky} : ∀ (x : List OpS), goodO l x → x.foldl (Z07 l) (false, 0) = (false, 0)
 | [], _ => rfl
 | o :: x, h => by
   rw [List.foldl_cons]
   have h0 := h o (by simp)
   have : Z07 l (false, 0) o = (false, 0) := by unfold Z07; simp [h0]
   rw [this]
   exact Z97 x h.tail
theorem Z1y {l : List Ky} {x : List OpS} (h : mayO l x = 0) : goodO l x ∧ Z1k x ≤ 536870912 ∧ Z1F x ≤ 536870912 := by
 unfold mayO at h
 cases h1 : (x.foldl (Z07 l) (false, 0)).1 with
 | true => rw [h1] at h; simp at h
 | false =>
   rw [h1] at h
   simp only [Bool.false_eq_true, if_false] at h
   by_cases h2 : Z1k x ≤ 536870912 ∧ Z1F x ≤ 536870912
   ·rw [if_pos h2] at h; exact ⟨(Z96 x 0 h1 h).2, h2⟩
   ·rw [if_neg h2] at h; cases h
theorem Y2v {l : List Ky} {x : List OpS} (h : goodO l x) (h1 : Z1k x ≤ 536870912) (h2 : Z1F x ≤ 536870912) : mayO l x = 0 := by
 unfold mayO
 rw [Z97 x h]
 simp [h1, h2]
def tkI (o : Opd) : Int := if o.k = 2 then 0 else o.n
def mkI (o : Opd) : Int := if o.k = 3 then 0 else Z1d o
def sumT : List OpS → Int
 | [] => 0
 | o :: x => tkI o.o + sumT x
def sumM : List OpS → Int
 | [] => 0
 | o :: x => mkI o.o + sumM x
theorem Z1L {l : List Ky} {o : Opd} (h : oneP l o = 0) : Z4d o = true ∧ 1 ≤ Z1d o ∧ Z1d o ≤ 536870912 ∧ mayS l o.s = 0 ∧ mayP l o.p = 0 := by
 unfold oneP at h
 by_cases h1 : Z4d o = true ∧ 1 ≤ Z1d o ∧ Z1d o ≤ 536870912
 ·rw [if_pos h1] at h
  by_cases h2 : mayS l o.s = 0
  ·rw [if_pos h2] at h; exact ⟨h1.1, h1.2.1, h1.2.2, h2, h⟩
  ·rw [if_neg h2] at h; exact absurd h h2
 ·rw [if_neg h1] at h; cases h
theorem Y1e {o : Opd} (h : Z4d o = true) : o.k = 1 ∨ o.k = 2 ∨ o.k = 3 := by
 unfold Z4d at h
 by_cases h1 : o.k = 1
 ·exact .inl h1
 rw [if_neg h1] at h
 by_cases h3 : o.k = 3
 ·exact .inr (.inr h3)
 rw [if_neg h3] at h
 by_cases h2 : o.k = 2
 ·exact .inr (.inl h2)
 rw [if_neg h2] at h; cases h
theorem Z98 {l : List Ky} {o : Opd} (h : oneP l o = 0) : (o.k = 2 ∧ tkI o = 0 ∧ 1 ≤ mkI o ∧ mkI o ≤ 536870912) ∨ (o.k = 3 ∧ tkI o = o.n ∧ 1 ≤ o.n ∧ o.n ≤ 536870912 ∧ mkI o = 0) ∨ (o.k = 1 ∧ tkI o = o.n ∧ 1 ≤ o.n ∧ o.n ≤ 536870912 ∧ mkI o = o.n) := by
 obtain ⟨f, h1, h2, _, _⟩ := Z1L h
 unfold tkI mkI
 unfold Z1d at *
 rcases Y1e f with hk | hk | hk <;> rw [hk] at h1 h2 ⊢ <;> simp at h1 h2 ⊢ <;> omega
theorem sums {l : List Ky} : ∀ (x : List OpS), goodO l x → 0 ≤ sumT x ∧ sumT x ≤ 536870912 * (x.length : Int) ∧ 0 ≤ sumM x ∧ sumM x ≤ 536870912 * (x.length : Int)
 | [], _ => by simp [sumT, sumM]
 | o :: x, h => by
   obtain ⟨a, b, c, d⟩ := sums x h.tail
   have := Z98 (h o (by simp))
   simp only [sumT, sumM, List.length_cons]
   push_cast
   omega
theorem Y5x {l : List Ky} : ∀ (x : List OpS) (a : Int), goodO l x → 0 ≤ a → a + 536870912 * (x.length : Int) ≤ 4611686018427387904 → x.foldl Z22 a = a + sumT x
 | [], a, _, _, _ => by simp [sumT]
 | o :: x, a, h, h0, hb => by
   have hk := Z98 (h o (by simp))
   simp only [List.length_cons] at hb
   push_cast at hb
   have e : Z22 a o = a + tkI o.o := by
    unfold Z22
    by_cases h2 : o.o.k = 2
    ·rw [if_pos h2]; unfold tkI; rw [if_pos h2]; omega
    ·rw [if_neg h2]; unfold tkI; rw [if_neg h2]; exact IntWalk.i64_in _ (by omega)
   rw [List.foldl_cons, e, Y5x x _ h.tail (by omega) (by omega)]
   simp only [sumT]; omega
theorem Y5y {l : List Ky} : ∀ (x : List OpS) (a : Int), goodO l x → 0 ≤ a → a + 536870912 * (x.length : Int) ≤ 4611686018427387904 → x.foldl Z23 a = a + sumM x
 | [], a, _, _, _ => by simp [sumM]
 | o :: x, a, h, h0, hb => by
   have hk := Z98 (h o (by simp))
   have hs := (Z1L (h o (by simp))).2
   simp only [List.length_cons] at hb
   push_cast at hb
   have e : Z23 a o = a + mkI o.o := by
    unfold Z23
    by_cases h2 : o.o.k = 3
    ·rw [if_pos h2]; unfold mkI; rw [if_pos h2]; omega
    ·rw [if_neg h2]; unfold mkI; rw [if_neg h2]; exact IntWalk.i64_in _ (by omega)
   rw [List.foldl_cons, e, Y5y x _ h.tail (by omega) (by omega)]
   simp only [sumM]; omega
theorem Z1m {l : List Ky} {x : List OpS} (h : goodO l x) (hb : x.length ≤ 1048576) : Z1k x = sumT x := by
 unfold Z1k; rw [Y5x x 0 h (by omega) (by omega)]; omega
theorem Z1M {l : List Ky} {x : List OpS} (h : goodO l x) (hb : x.length ≤ 1048576) : Z1F x = sumM x := by
 unfold Z1F; rw [Y5y x 0 h (by omega) (by omega)]; omega
def finR (n : Int) : Int → List OpS → Bool
 | _, [] => true
 | a, o :: x => if o.o.k = 2 then (decide (¬ a = n) && finR n a x) else if o.o.k = 3 ∧ a + o.o.n = n then false else finR n (a + o.o.n) x
theorem Z7A {l : List Ky} (n : Int) : ∀ (x : List OpS) (a : Int), goodO l x → 0 ≤ a → a + 536870912 * (x.length : Int) ≤ 4611686018427387904 → (x.foldl (Z0O n) (true, a)).1 = finR n a x
 | [], a, _, _, _ => rfl
 | o :: x, a, h, h0, hb => by
   have hk := Z98 (h o (by simp))
   simp only [List.length_cons] at hb
   push_cast at hb
   rw [List.foldl_cons]
   unfold Z0O finR
   simp only [Bool.true_eq_false, if_false]
   by_cases h2 : o.o.k = 2
   ·rw [if_pos h2, if_pos h2]
    by_cases ha : a = n
    ·have := Z2f n a x
     unfold Z0O at this
     simp only [ha] at this ⊢
     simp only [not_true_eq_false, decide_false, Bool.false_and]
     rw [this]
    ·simp only [ha, not_false_eq_true, decide_true, Bool.true_and]
     exact Z7A n x a h.tail h0 (by omega)
   ·have e : IntKind.i64.wrap (a + o.o.n) = a + o.o.n := IntWalk.i64_in _ (by omega)
    rw [if_neg h2, if_neg h2, e]
    by_cases h3 : o.o.k = 3 ∧ a + o.o.n = n
    ·rw [if_pos h3, if_pos h3]
     have := Z2f n a x
     unfold Z0O at this
     rw [this]
    ·rw [if_neg h3, if_neg h3]
     exact Z7A n x _ h.tail (by omega) (by omega)
theorem Y2w {l : List Ky} {x : List OpS} (n : Int) (h : goodO l x) (hb : x.length ≤ 1048576) : Z3m n x = finR n 0 x := by
 unfold Z3m; exact Z7A n x 0 h (by omega) (by omega)
theorem Z5u {l : List Ky} {x : List OpS} {n : Int} (h : goodO l x) (hb : x.length ≤ 1048576) (h0 : 0 ≤ n) (h1 : n ≤ 4294967296) (ht : Z1k x ≤ 536870912) (hm : Z1F x ≤ 536870912) : Z4I n x = n - sumT x + sumM x := by
 have hs := sums x h
 have et := Z1m h hb
 have em := Z1M h hb
 unfold Z4I
 rw [et] at ht ⊢
 rw [em] at hm ⊢
 rw [IntWalk.i64_in (n - sumT x) (by omega), IntWalk.i64_in _ (by omega)]
theorem Z10 {l : List Ky} {x : List OpS} {n most : Int} (h : Z3g l x n most = 0) : mayO l x = 0 ∧ 1 ≤ n ∧ n ≤ most ∧ Z1k x ≤ n ∧ Z3m n x = true ∧ Z2i l x = true ∧ Z4I n x ≤ most := by
 unfold Z3g at h
 by_cases h1 : ¬ mayO l x = 0
 ·rw [if_pos h1] at h; exact absurd h h1
 rw [if_neg h1] at h
 by_cases h2 : n < 1 ∨ most < n ∨ n < Z1k x
 ·rw [if_pos h2] at h; cases h
 rw [if_neg h2] at h
 by_cases h3 : Z3m n x = false
 ·rw [if_pos h3] at h; cases h
 rw [if_neg h3] at h
 by_cases h4 : Z2i l x = false
 ·rw [if_pos h4] at h; cases h
 rw [if_neg h4] at h
 by_cases h5 : most < Z4I n x
 ·rw [if_pos h5] at h; cases h
 exact ⟨by omega, by omega, by omega, by omega, by simpa using h3, by simpa using h4, by omega⟩
theorem Z55 {l : List Ky} {x : List OpS} {n most : Int} (h1 : mayO l x = 0) (h2 : 1 ≤ n) (h3 : n ≤ most) (h4 : Z1k x ≤ n) (h5 : Z3m n x = true) (h6 : Z2i l x = true) (h7 : Z4I n x ≤ most) : Z3g l x n most = 0 := by
 unfold Z3g
 rw [if_neg (by simp [h1]), if_neg (by omega), if_neg (by simp [h5]), if_neg (by simp [h6]), if_neg (by omega)]
end Go.Proofs.YtnmedachaeanbaaGreatDoor
