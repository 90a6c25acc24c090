/- Merged texts: RulesLaw, Complete, Step, RulesOneLaw, OnceLaw, BuildF, FormLaw. -/
import Derived.Test.YtfnkjcodcoehcaaGreatDoorW6
import Derived.Test.YtfnkjcodcoehcaaGreatDoorW17
import Derived.Test.YtfnkjcodcoehcaaGreatDoorW19
import Derived.Test.YtfnkjcodcoehcaaGreatDoorW9
import Derived.Test.YtfnkjcodcoehcaaGreatDoorW7
import Derived.Test.YtfnkjcodcoehcaaGreatDoorW14
import Derived.Test.YtfnkjcodcoehcaaGreatDoorW18
import Derived.Test.YtfnkjcodcoehcaaGreatDoorW12
import Derived.Test.YtfnkjcodcoehcaaGreatDoorW11
namespace Go.Proofs.YtfnkjcodcoehcaaGreatDoor
set_option linter.unusedVariables false
set_option linter.unusedSimpArgs false

def goneK (k : Int) : Ch := ⟨k, true, V.zero⟩
def othersOf (l : List Ky) (p : List Ch) : List Int := (p.filter (fun c => !c.gone)).flatMap (fun c => groupL l c.key)
def setB (p : List Ch) (k : Int) : Bool := match lk Ch.key p k with | some c => !c.gone | none => false
def confP (l : List Ky) (p : List Ch) : Bool := (othersOf l p).any (setB p)
def complLk (os : List Int) (p : List Ch) (k : Int) : Option Ch := (lk Ch.key p k).or (if k ∈ os then some (goneK k) else none)
def complF (os : List Int) (p : List Ch) : List Ch := os.foldl (fun o k => composeP [goneK k] o) p
def completeP (l : List Ky) (p : List Ch) : List Ch := complF (othersOf l p) p

theorem complLk_nil (p : List Ch) (k : Int) : complLk [] p k = lk Ch.key p k := by simp [complLk]
theorem complLk_set {os : List Int} {p : List Ch} {k : Int} {c : Ch} (h : complLk os p k = some c) (hg : c.gone = false) : lk Ch.key p k = some c := by
  unfold complLk at h
  cases hl : lk Ch.key p k with
  | some d => rw [hl] at h; exact h
  | none =>
    rw [hl, Option.none_or] at h
    split at h
    · injection h with h; subst h; cases hg
    · cases h
theorem complLk_none {os : List Int} {p : List Ch} {k : Int} (h : complLk os p k = none) : lk Ch.key p k = none ∧ k ∉ os := by
  unfold complLk at h
  cases hl : lk Ch.key p k with
  | some d => rw [hl] at h; cases h
  | none =>
    rw [hl, Option.none_or] at h
    split at h
    · cases h
    · rename_i hm; exact ⟨rfl, hm⟩
theorem complLk_mem {os ps : List Int} (h : ∀ k, k ∈ os ↔ k ∈ ps) (p : List Ch) (k : Int) : complLk os p k = complLk ps p k := by
  unfold complLk
  by_cases hk : k ∈ os
  · rw [if_pos hk, if_pos ((h k).1 hk)]
  · rw [if_neg hk, if_neg (fun hh => hk ((h k).2 hh))]
theorem complLk_there {os : List Int} {p : List Ch} {o : Int} {c : Ch} (h : complLk os p o = some c) (hg : c.gone = true) (k : Int) : complLk (os ++ [o]) p k = complLk os p k := by
  unfold complLk
  cases hl : lk Ch.key p k with
  | some d => rfl
  | none =>
    simp only [Option.none_or, List.mem_append, List.mem_singleton]
    by_cases hk : k = o
    · subst hk
      unfold complLk at h
      rw [hl, Option.none_or] at h
      split at h
      · rename_i hm; rw [if_pos (Or.inl hm), if_pos hm]
      · cases h
    · simp [hk]
theorem complLk_new {os : List Int} {p : List Ch} {o : Int} (h : complLk os p o = none) (k : Int) : complLk (os ++ [o]) p k = if o = k then some (goneK k) else complLk os p k := by
  obtain ⟨h1, h2⟩ := complLk_none h
  unfold complLk
  by_cases hk : o = k
  · subst hk
    rw [h1, if_pos rfl]; simp
  · rw [if_neg hk]
    have : (k ∈ os ++ [o]) ↔ k ∈ os := by simp; intro e; exact absurd e.symm hk
    simp only [this]
theorem gone_srt (k : Int) : Srt Ch.key [goneK k] := (srt_cons Ch.key).2 ⟨by simp, Srt.nil Ch.key⟩
theorem complF_all (os : List Int) : ∀ {p : List Ch}, Srt Ch.key p → Srt Ch.key (complF os p) ∧ ∀ k, lk Ch.key (complF os p) k = complLk os p k := by
  induction os with
  | nil => intro p hp; exact ⟨hp, fun k => (complLk_nil p k).symm⟩
  | cons o os ih =>
    intro p hp
    obtain ⟨h1, h2, _⟩ := compose_all hp (gone_srt o)
    obtain ⟨g1, g2⟩ := ih h1
    refine ⟨g1, fun k => ?_⟩
    show lk Ch.key (complF os (composeP [goneK o] p)) k = _
    rw [g2 k]
    unfold complLk
    rw [h2 k, lk_cons, lk_nil, Option.or_assoc]
    congr 1
    by_cases hk : o = k
    · subst hk; simp [goneK]
    · have : ¬ k = o := fun e => hk e.symm
      have hk2 : ¬ (goneK o).key = k := hk
      rw [if_neg hk2]; simp [this]
theorem compl_ext {l : List Ky} {p r : List Ch} (hp : riseC p = true) (hr : riseC r = true) (h : ∀ k, lk Ch.key r k = complLk (othersOf l p) p k) : r = completeP l p := by
  obtain ⟨g1, g2⟩ := complF_all (othersOf l p) (riseC_srt.1 hp)
  exact lk_ext Ch.key (riseC_srt.1 hr) g1 (fun k => by rw [h k]; exact (g2 k).symm)

theorem insC_lk {l : List Ch} {c : Ch} {i : Nat} (h : FindOutC l c.key i false) (hr : riseC l = true) : riseC (insC l i c) = true ∧ ∀ k, lk Ch.key (insC l i c) k = if c.key = k then some c else lk Ch.key l k := by
  obtain ⟨hi, hb, hc⟩ := h
  obtain ⟨h1, h2⟩ := hc hr
  have hs := riseC_srt.1 hr
  have e : l = l.take i ++ l.drop i := (List.take_append_drop i l).symm
  have hs2 : Srt Ch.key (l.take i ++ l.drop i) := by rw [← e]; exact hs
  obtain ⟨s1, s2, s3⟩ := (srt_append Ch.key).1 hs2
  have a1 : ∀ a ∈ l.take i, a.key < c.key := by
    intro a ha
    obtain ⟨j, hj, rfl⟩ := List.getElem_of_mem ha
    have hj' : j < i ∧ j < l.length := by rw [List.length_take] at hj; omega
    refine h1 j _ hj'.1 ?_
    rw [List.getElem_take, List.getElem?_eq_getElem hj'.2]
  have a2 : ∀ a ∈ l.drop i, c.key < a.key := by
    intro a ha
    obtain ⟨j, hj, rfl⟩ := List.getElem_of_mem ha
    have hj' : i + j < l.length := by rw [List.length_drop] at hj; omega
    have e1 : l[i + j]? = some ((l.drop i)[j]) := by rw [List.getElem_drop, List.getElem?_eq_getElem hj']
    have h3 := h2 (i + j) _ (by omega) e1
    rcases Int.lt_or_le c.key ((l.drop i)[j]).key with h | h
    · exact h
    · exfalso
      have hk : ((l.drop i)[j]).key = c.key := by omega
      by_cases hj0 : j = 0
      · subst hj0
        have := hb.2 ⟨_, e1, hk⟩
        cases this
      · obtain ⟨b, hb0⟩ : ∃ b, l[i]? = some b := ⟨l[i], List.getElem?_eq_getElem (by omega)⟩
        have h4 := riseC_lt hr (x := i) (y := i + j) (by omega) hb0 e1
        have h5 := h2 i b (by omega) hb0
        omega
  have hsi : Srt Ch.key (insC l i c) := by
    unfold insC
    refine (srt_append Ch.key).2 ⟨s1, (srt_cons Ch.key).2 ⟨a2, s2⟩, fun a ha b hb => ?_⟩
    rcases List.mem_cons.1 hb with rfl | hb
    · exact a1 a ha
    · exact s3 a ha b hb
  refine ⟨riseC_srt.2 hsi, fun k => ?_⟩
  unfold insC
  rw [lk_append, lk_cons]
  by_cases hk : c.key = k
  · rw [if_pos hk, if_pos hk, lk_none Ch.key (fun a ha => by have := a1 a ha; omega)]; rfl
  · rw [if_neg hk, if_neg hk, ← lk_append, List.take_append_drop]
theorem findC_lk {l : List Ch} {k : Int} {i : Nat} {b : Bool} (h : FindOutC l k i b) (hr : riseC l = true) : (b = true → ∃ c, l[i]? = some c ∧ c.key = k ∧ lk Ch.key l k = some c) ∧ (b = false → lk Ch.key l k = none) := by
  obtain ⟨hi, hb, hc⟩ := h
  have hs := riseC_srt.1 hr
  constructor
  · intro h
    obtain ⟨c, h1, h2⟩ := hb.1 h
    refine ⟨c, h1, h2, ?_⟩
    rw [← h2]
    exact lk_of_mem Ch.key hs (List.mem_of_getElem? h1)
  · intro h
    subst h
    refine lk_none Ch.key (fun a ha hk => ?_)
    obtain ⟨h1, h2⟩ := hc hr
    obtain ⟨j, hj, rfl⟩ := List.getElem_of_mem ha
    have e1 : l[j]? = some l[j] := List.getElem?_eq_getElem hj
    rcases Nat.lt_trichotomy j i with hlt | heq | hgt
    · have := h1 j _ hlt e1; omega
    · subst heq
      have := hb.2 ⟨_, e1, hk⟩; cases this
    · obtain ⟨d, hd⟩ : ∃ d, l[i]? = some d := ⟨l[i]'(by omega), List.getElem?_eq_getElem (by omega)⟩
      have h4 := riseC_lt hr hgt hd e1
      have h5 := h2 i d (by omega) hd
      omega

theorem mem_othersOf {l : List Ky} {p : List Ch} {k : Int} : k ∈ othersOf l p ↔ ∃ c ∈ p, c.gone = false ∧ k ∈ groupL l c.key := by
  simp [othersOf, and_assoc]
theorem othersOf_snoc (l : List Ky) (p : List Ch) (c : Ch) : othersOf l (p ++ [c]) = othersOf l p ++ (if c.gone = true then [] else groupL l c.key) := by
  unfold othersOf
  rw [List.filter_append, List.flatMap_append]
  cases hc : c.gone <;> simp [hc]
theorem conf_mem {l : List Ky} {p : List Ch} {c d : Ch} {o : Int} (hc : c ∈ p) (hg : c.gone = false) (ho : o ∈ groupL l c.key) (hl : lk Ch.key p o = some d) (hd : d.gone = false) : confP l p = true := by
  unfold confP
  rw [List.any_eq_true]
  exact ⟨o, mem_othersOf.2 ⟨c, hc, hg, ho⟩, by simp [setB, hl, hd]⟩
open Go.RowKit

theorem Ow.kept {α : Type} {enc : α → List Value} {size : Nat} {e : TypeId} {w w' : World} {base : Nat} {v : Value} {l : List α} {o : Option Nat} (h : Ow enc size e w base v l) (k : Kept o w w') (hne : ∀ j, wb v = some j → o ≠ some j) : Ow enc size e w' base v l :=
  h.keep fun j hj => k j (h.wb_lt j hj).2 (hne j hj)
def ComplInv (l : List Ky) (p r : List Ch) (D : Int → Prop) : Prop :=
  riseC p = true → ∃ os : List Int, riseC r = true ∧ (∀ k, lk Ch.key r k = complLk os p k) ∧ (∀ k, k ∈ os ↔ D k) ∧ os.any (setB p) = false
theorem ComplInv.congr {l : List Ky} {p r : List Ch} {D D' : Int → Prop} (h : ComplInv l p r D) (hd : ∀ k, D k ↔ D' k) : ComplInv l p r D' := fun hp => by
  obtain ⟨os, h1, h2, h3, h4⟩ := h hp
  exact ⟨os, h1, h2, fun k => (h3 k).trans (hd k), h4⟩
theorem ComplInv.there {l : List Ky} {p r : List Ch} {D : Int → Prop} {o : Int} {i : Nat} {d : Ch} (h : ComplInv l p r D) (hf : FindOutC r o i true) (hd : r[i]? = some d) (hg : d.gone = true) : ComplInv l p r (fun k => D k ∨ k = o) := fun hp => by
  obtain ⟨os, h1, h2, h3, h4⟩ := h hp
  obtain ⟨c, e1, e2, e3⟩ := (findC_lk hf h1).1 rfl
  rw [hd] at e1; injection e1 with e1; subst e1
  have e4 : complLk os p o = some d := by rw [← h2 o]; exact e3
  refine ⟨os ++ [o], h1, fun k => by rw [complLk_there e4 hg k]; exact h2 k, fun k => by simp [h3 k], ?_⟩
  rw [List.any_append, h4]
  simp only [List.any_cons, List.any_nil, Bool.or_false, Bool.false_or]
  unfold setB
  cases hl : lk Ch.key p o with
  | none => rfl
  | some c =>
    unfold complLk at e4
    rw [hl] at e4
    injection e4 with e4; subst e4
    simp [hg]
theorem ComplInv.new {l : List Ky} {p r : List Ch} {D : Int → Prop} {o : Int} {i : Nat} (h : ComplInv l p r D) (hf : FindOutC r o i false) : ComplInv l p (insC r i (goneK o)) (fun k => D k ∨ k = o) := fun hp => by
  obtain ⟨os, h1, h2, h3, h4⟩ := h hp
  have e3 := (findC_lk hf h1).2 rfl
  have e4 : complLk os p o = none := by rw [← h2 o]; exact e3
  obtain ⟨g1, g2⟩ := insC_lk (c := goneK o) hf h1
  refine ⟨os ++ [o], g1, fun k => by
    rw [g2 k, complLk_new e4 k, ← h2 k]
    by_cases hk : o = k
    · subst hk; rfl
    · rw [if_neg hk, if_neg (show ¬ (goneK o).key = k from hk)], fun k => by simp [h3 k], ?_⟩
  rw [List.any_append, h4]
  simp only [List.any_cons, List.any_nil, Bool.or_false, Bool.false_or]
  unfold setB
  rw [(complLk_none e4).1]
theorem ComplInv.conf {l : List Ky} {p r : List Ch} {D : Int → Prop} {o : Int} {i : Nat} {c d : Ch} (h : ComplInv l p r D) (hf : FindOutC r o i true) (hd : r[i]? = some d) (hg : d.gone = false) (hc : c ∈ p) (hcg : c.gone = false) (ho : o ∈ groupL l c.key) : riseC p = true → confP l p = true := fun hp => by
  obtain ⟨os, h1, h2, h3, h4⟩ := h hp
  obtain ⟨c', e1, e2, e3⟩ := (findC_lk hf h1).1 rfl
  rw [hd] at e1; injection e1 with e1; subst e1
  exact conf_mem hc hcg ho (complLk_set (by rw [← h2 o]; exact e3) hg) hg
theorem ComplInv.done {l : List Ky} {p r : List Ch} (h : ComplInv l p r (fun k => k ∈ othersOf l p)) (hp : riseC p = true) : confP l p = false ∧ r = completeP l p := by
  obtain ⟨os, h1, h2, h3, h4⟩ := h hp
  refine ⟨?_, compl_ext hp h1 (fun k => by rw [h2 k]; exact complLk_mem h3 p k)⟩
  unfold confP
  rw [Bool.eq_false_iff] at h4 ⊢
  intro hh
  obtain ⟨k, hk, hs⟩ := List.any_eq_true.1 hh
  exact h4 (List.any_eq_true.2 ⟨k, (h3 k).2 hk, hs⟩)

def ComplOut (l : List Ky) (p : List Ch) (w : World) (e : Ending) (w' : World) : Prop :=
  ∃ (r : List Ch) (er : Int) (A : Option Addr) (c : Nat), e = .returned (.tuple #[.slice A r.length c, .int .i64 er]) ∧ (riseC p = true → confP l p = true ∧ er = 3 ∧ r = [] ∨ confP l p = false ∧ er = 0 ∧ r = completeP l p) ∧ r.length ≤ p.length + p.length * 64 ∧ OwCh w' w.heap.size (.slice A r.length c) r ∧ Below w.heap.size w w'

theorem take_mem {g : List Int} {j : Nat} {o : Int} (h : g[j]? = some o) (k : Int) : (k ∈ g.take j ∨ k = o) ↔ k ∈ g.take (j + 1) := by
  obtain ⟨hj, he⟩ := List.getElem?_eq_some_iff.1 h
  rw [List.take_succ_eq_append_getElem hj, he]; simp

set_option maxRecDepth 100000 in
set_option maxHeartbeats 4000000 in
theorem complete_any (s : Nat) (l : List Ky) (A : Option Addr) (n c : Nat) (p : List Ch) (w : World) (hn : n = p.length) (h : RdCh w w.heap.size A p) (hb : n ≤ 100000) (hS : Sch w s l) (hl : l.length ≤ 64) :
    Calls Tryz.prog 136 #[.pointer (some ⟨s, 0, none⟩), .slice A n c] w (ComplOut l p w) := by
  have N := Lib.hid hn
  have HS := Lib.hid hS
  clear hn hS
  go_enter Tryz.func136, Tryz.ntmps136
  go_wp2_with (go_at_call 168; refine Hid.out ?_)
  refine Lib.hid ?_
  refine (cloneCh_any A n c p w N.out h (by omega)).mono ?_
  rintro e w1 ⟨A1, c1, rfl, ho, y1⟩
  have HO := Lib.hid ho
  clear ho
  go_wp2_with (fail)
  go_loopg [6, 17] n (fun g ov iv wr => ∃ (m : Nat) (r : List Ch) (A6 : Option Addr) (c6 : Nat), m ≤ n ∧ g = n - m ∧ ov = .slice A6 r.length c6 ∧ iv = .int .i64 (m : Int) ∧ OwCh wr w.heap.size (.slice A6 r.length c6) r ∧ r.length ≤ n + m * 64 ∧ Below w.heap.size w wr ∧ Hid (ComplInv l p r (fun k => k ∈ othersOf l (p.take m))))
  case atStart => exact ⟨0, p, A1, c1, by omega, rfl, rfl, rfl, HO.out, by have := N.out; omega, y1, Lib.hid (fun hp => ⟨[], hp, fun k => (complLk_nil p k).symm, fun k => by simp [othersOf], rfl⟩)⟩
  case round =>
    obtain ⟨m, r, A6, c6, hm, hg, rfl, rfl, hown, hrl, y, HI⟩ := hrel
    have HG := Lib.hid hg
    clear hg
    by_cases hlt : m < n
    · obtain ⟨ad, x, rfl, had, hd1, hx1, hc0⟩ := (h.below y (Nat.le_refl _)).el (i := m) (by have := N.out; omega)
      have hsn := othersOf_snoc l (p.take m) x
      rw [← take_snoc hx1] at hsn
      have HX := Lib.hid (List.mem_of_getElem? hx1)
      obtain ⟨x1, x6, x2, x3, x4, x5⟩ := x
      have HSN := Lib.hid hsn
      obtain ⟨r0, r1, r2, r3, r4, r5⟩ := ch_cells hc0
      clear hc0 hd1 hx1 hsn
      have yb := ext_alloc wr (.cells #[.int .i64 x1, .bool x6, .int .u8 x2, .int .i64 x3, .int .u64 x4, .string x5] 77)
      have HOW := Lib.hid (hown.below yb (Nat.le_refl _))
      have y2 := ext_trans y yb
      have hw2 : IntKind.i64.wrap ((m:Int) + 1) = (m : Int) + 1 := IntWalk.i64_in _ (by omega)
      obtain ⟨nr, hnr⟩ : ∃ nr, nr = r.length := ⟨_, rfl⟩
      rw [← hnr] at HOW hrl ⊢
      have NR := Lib.hid hnr
      clear hown hnr
      cases x6 with
      | true =>
        go_wp2_with (fail)
        go_roundg (n - (m + 1))
        case measure => have := HG.out; omega
        case rel =>
          refine ⟨m + 1, r, A6, c6, by omega, rfl, by rw [NR.out], by go_num, by rw [← NR.out]; exact HOW.out, by have := NR.out; omega, y2, Lib.hid (HI.out.congr fun k => ?_)⟩
          rw [HSN.out]; simp
      | false =>
        go_wp2_with (go_at_call 189; refine Hid.out ?_)
        refine Lib.hid ?_
        refine (groupS_any s l x1 _ (HS.out.ext y2) (by omega)).mono ?_
        rintro e w3 ⟨g, Ag, cg, rfl, hgp, hgl, hgo, y3⟩
        have HOW3 := Lib.hid (HOW.out.below y3 (Nat.le_refl _))
        have hdis : ∀ k, wb (.slice Ag g.length cg) = some k → wb (.slice A6 nr c6) ≠ some k := fun k hk he => by
          have h1 := (hgo.wb_lt k hk).1
          have h2 := (HOW.out.wb_lt k he).2
          omega
        have y4 := ext_trans y2 y3
        obtain ⟨ng, hng⟩ : ∃ ng, ng = g.length := ⟨_, rfl⟩
        rw [← hng] at hgo hdis hgl ⊢
        have NG := Lib.hid hng
        have GP := Lib.hid hgp
        have HGO := Lib.hid hgo
        have HDI := Lib.hid hdis
        clear hng hgp hgo hdis r0 r1 r2 r3 r4 r5
        go_wp2_with (fail)
        obtain ⟨lo, hlo⟩ : ∃ lo, lo = (wr.alloc (.cells #[.int .i64 x1, .bool false, .int .u8 x2, .int .i64 x3, .int .u64 x4, .string x5] 77)).heap.size := ⟨_, rfl⟩
        rw [← hlo] at HGO
        clear hlo
        go_loopg [6, 28] ng (fun gh ov iv wi => ∃ (j : Nat) (r : List Ch) (A6 : Option Addr) (c6 : Nat), j ≤ ng ∧ gh = ng - j ∧ ov = .slice A6 r.length c6 ∧ iv = .int .i64 (j : Int) ∧ OwCh wi w.heap.size (.slice A6 r.length c6) r ∧ r.length ≤ n + m * 64 + j ∧ Below w.heap.size w wi ∧
          OwInt wi lo (.slice Ag ng cg) g ∧ Hid (∀ k, wb (.slice Ag ng cg) = some k → wb (.slice A6 r.length c6) ≠ some k) ∧ Hid (ComplInv l p r (fun k => k ∈ othersOf l (p.take m) ∨ k ∈ g.take j)))
        case atStart => exact ⟨0, r, A6, c6, by omega, rfl, by rw [← NR.out], rfl, by rw [← NR.out]; exact HOW3.out, by have := NR.out; omega, y4, HGO.out, by rw [← NR.out]; exact HDI, Lib.hid (HI.out.congr fun k => by simp)⟩
        case round =>
          clear HI HOW HOW3 HGO HDI NR hrl y y2 y3 y4 yb
          obtain ⟨j, r, A6, c6, hj, hg2, rfl, rfl, hown, hrl, y, hgo, HDI, HI⟩ := hrel
          have HG2 := Lib.hid hg2
          clear hg2
          obtain ⟨nr, hnr⟩ : ∃ nr, nr = r.length := ⟨_, rfl⟩
          rw [← hnr] at hown hrl HDI ⊢
          have NR := Lib.hid hnr
          have HOW := Lib.hid hown
          have HGO := Lib.hid hgo
          clear hown hnr hgo
          by_cases hlj : j < ng
          · obtain ⟨ad2, o, hag, _, _, ho1, hoc⟩ := (HGO.out.rd encInt_len).el (i := j) (by have := NG.out; omega)
            subst hag
            have q0 : _ = some (Value.int .i64 o) := hoc 0 _ rfl
            rw [add_zero', Nat.mul_one] at q0
            have HMEM := Lib.hid (GP.out.mem_iff.1 (List.mem_of_getElem? ho1))
            have HTM := Lib.hid (take_mem ho1)
            have hw3 : IntKind.i64.wrap ((j:Int) + 1) = (j : Int) + 1 := IntWalk.i64_in _ (by omega)
            clear ho1 hoc
            go_wp2_with (go_at_call 190; refine Hid.out ?_)
            refine Lib.hid ?_
            refine (atC_any A6 nr c6 r o _ NR.out (HOW.out.rd Ch.enc_len) (by omega)).mono ?_
            rintro e w5 ⟨i, th, rfl, hf, y5⟩
            have HOW5 := Lib.hid (HOW.out.below y5 (Nat.le_refl _))
            have HGO5 := Lib.hid (HGO.out.below y5 (Nat.le_refl _))
            have yz := ext_trans y y5
            have hir : i ≤ nr := by have := hf.1; have := NR.out; omega
            have HF := Lib.hid hf
            clear hf q0
            cases th with
            | true =>
              obtain ⟨d, hd1, hd2⟩ := HF.out.2.1.1 rfl
              obtain ⟨ad3, d', ha3, _, _, hd3, hdc⟩ := (HOW5.out.rd Ch.enc_len).el (i := i) (List.getElem?_eq_some_iff.1 hd1).1
              have hil : i < nr := by have := (List.getElem?_eq_some_iff.1 hd1).1; have := NR.out; omega
              rw [hd1] at hd3; injection hd3 with hd3; subst hd3 ha3
              have HD1 := Lib.hid hd1
              obtain ⟨d1, d6, d2, d3, d4, d5⟩ := d
              obtain ⟨f0, f1, f2, f3, f4, f5⟩ := ch_cells hdc
              clear hd1 hd2 hdc
              cases d6 with
              | true =>
                go_wp2_with (fail)
                go_roundg (ng - (j + 1))
                case measure => have := HG2.out; omega
                case rel =>
                  refine ⟨j + 1, r, _, c6, by omega, rfl, by rw [← NR.out], by go_num, by rw [← NR.out]; exact HOW5.out, by have := NR.out; omega, yz, HGO5.out, by rw [← NR.out]; exact HDI, Lib.hid ((HI.out.there HF.out HD1.out rfl).congr fun k => ?_)⟩
                  rw [← HTM.out k, or_assoc]
              | false =>
                go_wp2_with (fail)
                refine bodyPost_ret (v := .tuple #[.slice none 0 0, .int .i64 3]) (by simp [results, Tryz.results136, go_sem]) rfl ?_
                exact ⟨[], 3, none, 0, rfl, fun hp => .inl ⟨HI.out.conf HF.out HD1.out rfl HX.out rfl HMEM.out hp, rfl, rfl⟩, by simp, Ow.nil _ _, yz⟩
            | false =>
              have hv := heap_alloc_new w5 (.cells #[.int .i64 o, .bool true, .int .u8 0, .int .i64 0, .int .u64 0, .string ⟨#[]⟩] 77)
              have HV := Lib.hid hv
              have ya := ext_alloc w5 (.cells #[.int .i64 o, .bool true, .int .u8 0, .int .i64 0, .int .u64 0, .string ⟨#[]⟩] 77)
              have HOW6 := Lib.hid (HOW5.out.below ya (Nat.le_refl _))
              have HGO6 := Lib.hid (HGO5.out.below ya (Nat.le_refl _))
              have yq := ext_trans yz ya
              have hsz : w.heap.size ≤ (w5.alloc (.cells #[.int .i64 o, .bool true, .int .u8 0, .int .i64 0, .int .u64 0, .string ⟨#[]⟩] 77)).heap.size := yq.size
              clear hv
              go_wp2_with (go_at_call 191; refine Hid.out ?_)
              refine Lib.hid ?_
              refine (insertC_any A6 nr c6 w.heap.size w5.heap.size i r o true 0 0 0 ⟨#[]⟩ _ HOW6.out NR.out (by omega) hsz HV.out hir (fun h => absurd (HOW5.out.wb_lt _ h).2 (Nat.lt_irrefl _))).mono ?_
              rintro e w7 ⟨A7, c7, rfl, ho7, hb7, hk7⟩
              have y7 := yq.trans hb7
              have hln : nr + 1 = (insC r i (goneK o)).length := by rw [insC_len _ _ _ (by have := NR.out; omega), ← NR.out]
              have HLN := Lib.hid hln
              have HO7 := Lib.hid ho7
              have HGO7 := Lib.hid (HGO6.out.kept hk7.1 HDI.out)
              have HDI7 : Hid (∀ k, wb (.slice (some ad2) ng cg) = some k → wb (.slice A7 (nr + 1) c7) ≠ some k) := Lib.hid (fun k hk he => by
                rcases hk7.2 k he with h1 | h1
                · exact HDI.out k hk h1
                · have := (HGO6.out.wb_lt k hk).2; omega)
              clear hln ho7 hk7
              go_wp2_with (fail)
              go_roundg (ng - (j + 1))
              case measure => have := HG2.out; omega
              case rel =>
                refine ⟨j + 1, insC r i (goneK o), A7, c7, by omega, rfl, by rw [← HLN.out], by go_num, by rw [← HLN.out]; exact HO7.out, by have := HLN.out; omega, y7, HGO7.out, by rw [← HLN.out]; exact HDI7, Lib.hid ((HI.out.new HF.out).congr fun k => ?_)⟩
                rw [← HTM.out k, or_assoc]
          · have hjn : j = ng := by omega
            have HJ := Lib.hid hjn
            clear hjn
            go_wp2_with (fail)
            go_roundg (n - (m + 1))
            case measure => have := HG.out; omega
            case rel =>
              refine ⟨m + 1, r, A6, c6, by omega, rfl, by rw [← NR.out], by go_num, by rw [← NR.out]; exact HOW.out, by have := NR.out; omega, y, Lib.hid (HI.out.congr fun k => ?_)⟩
              rw [HSN.out, HJ.out, NG.out, List.take_length, List.mem_append, GP.out.mem_iff]
              simp
    · have hmn : m = n := by omega
      have HMN := Lib.hid hmn
      have HOW := Lib.hid hown
      clear hown hmn
      go_wp2_with (fail)
      refine bodyPost_ret (v := .tuple #[.slice A6 r.length c6, .int .i64 0]) (by simp [results, Tryz.results136, go_sem]) rfl ?_
      refine ⟨r, 0, A6, c6, rfl, fun hp => .inr ?_, by have := N.out; omega, HOW.out, y⟩
      have e : p.take m = p := List.take_of_length_le (by have := N.out; have := HMN.out; omega)
      have h1 := HI.out
      rw [e] at h1
      obtain ⟨g1, g2⟩ := h1.done hp
      exact ⟨g1, rfl, g2⟩

theorem completeP_rise {l : List Ky} {p : List Ch} (h : riseC p = true) : riseC (completeP l p) = true := riseC_srt.2 (complF_all _ (riseC_srt.1 h)).1
theorem completeP_lk {l : List Ky} {p : List Ch} (h : riseC p = true) (k : Int) : lk Ch.key (completeP l p) k = complLk (othersOf l p) p k := (complF_all _ (riseC_srt.1 h)).2 k

theorem mayP0 {l : List Ky} {p : List Ch} (h : mayP l p = 0) : p.length ≤ 64 ∧ riseC p = true ∧ p.all okC = true ∧ p.all (thereC l) = true := by
  unfold mayP at h
  by_cases h1 : 64 < p.length
  · rw [if_pos h1] at h; cases h
  · rw [if_neg h1] at h
    by_cases h2 : riseC p = true ∧ p.all okC = true
    · rw [if_pos h2] at h
      by_cases h3 : p.all (thereC l) = true
      · exact ⟨by omega, h2.1, h2.2, h3⟩
      · rw [if_neg h3] at h; cases h
    · rw [if_neg h2] at h; cases h
theorem mayP_mk {l : List Ky} {p : List Ch} (h0 : p.length ≤ 64) (h1 : riseC p = true) (h2 : ∀ c ∈ p, okC c = true) (h3 : ∀ c ∈ p, thereC l c = true) : mayP l p = 0 := by
  unfold mayP
  rw [if_neg (by omega), if_pos ⟨h1, List.all_eq_true.2 h2⟩, if_pos (List.all_eq_true.2 h3)]
theorem findK_mem {l : List Ky} {k : Ky} (h : k ∈ l) : (findK l k.id).isSome = true := by
  unfold findK
  rw [List.find?_isSome]
  exact ⟨k, h, by simp⟩
theorem group_there {l : List Ky} {id k : Int} (h : k ∈ groupL l id) : (findK l k).isSome = true := by
  unfold groupL at h
  cases hf : findK l id with
  | none => rw [hf] at h; simp at h
  | some x =>
    rw [hf] at h
    simp only at h
    split at h
    · simp at h
    · unfold othersL at h
      obtain ⟨o, ho, rfl⟩ := List.mem_map.1 h
      exact findK_mem (List.mem_filter.1 ho).1
theorem compl_mem {l : List Ky} {p : List Ch} (hp : riseC p = true) {c : Ch} (hc : c ∈ completeP l p) : c ∈ p ∨ (c = goneK c.key ∧ (findK l c.key).isSome = true) := by
  have h1 := lk_of_mem Ch.key (riseC_srt.1 (completeP_rise (l := l) hp)) hc
  rw [completeP_lk hp] at h1
  unfold complLk at h1
  cases hl : lk Ch.key p c.key with
  | some d => rw [hl] at h1; injection h1 with h1; subst h1; exact .inl (lk_mem Ch.key hl)
  | none =>
    rw [hl, Option.none_or] at h1
    split at h1
    · rename_i hm
      injection h1 with h1
      obtain ⟨d, _, _, hg⟩ := mem_othersOf.1 hm
      exact .inr ⟨h1.symm, group_there hg⟩
    · cases h1
theorem keys_lenC2 {l : List Ky} {p : List Ch} (hp : riseC p = true) (h : ∀ c ∈ p, thereC l c = true) : p.length ≤ l.length := by
  have h2 : (p.map (·.key)).Pairwise (· < ·) := List.pairwise_map.2 (riseC_srt.1 hp)
  have h3 := keys_len (l := l) h2 (fun k hk => by
    obtain ⟨c, hc, rfl⟩ := List.mem_map.1 hk
    have := h c hc
    unfold thereC at this
    exact (Bool.and_eq_true_iff.1 this).1)
  simpa using h3
theorem compl_there {l : List Ky} {p : List Ch} (h : mayP l p = 0) : ∀ c ∈ completeP l p, thereC l c = true := fun c hc => by
  obtain ⟨h1, h2, h3, h4⟩ := mayP0 h
  rcases compl_mem h2 hc with hm | ⟨e, ht⟩
  · exact List.all_eq_true.1 h4 c hm
  · rw [e]; unfold thereC; rw [show (goneK c.key).key = c.key from rfl, ht]; rfl
theorem compl_len {l : List Ky} {p : List Ch} (h : mayP l p = 0) : (completeP l p).length ≤ l.length :=
  keys_lenC2 (completeP_rise (mayP0 h).2.1) (compl_there h)
theorem compl_may {l : List Ky} {p : List Ch} (h : mayP l p = 0) (hl : l.length ≤ 64) : mayP l (completeP l p) = 0 := by
  obtain ⟨h1, h2, h3, h4⟩ := mayP0 h
  refine mayP_mk (by have := compl_len h; omega) (completeP_rise h2) (fun c hc => ?_) (compl_there h)
  rcases compl_mem h2 hc with hm | ⟨e, _⟩
  · exact List.all_eq_true.1 h3 c hm
  · rw [e]; unfold okC; rw [if_pos (show (goneK c.key).gone = true from rfl)]; exact beqV_eq rfl

def onceU (i n : Nat) (p : List Ch) : List Un := List.replicate i (.ret []) ++ List.replicate n (.ret p)
theorem once_fit {l : List Ky} {i n N : Nat} {p : List Ch} (hp : mayP l p = 0) (hn : 1 ≤ N) (h : i + n ≤ N) (hb : N ≤ 536870912) : FitU l (onceU i n p) N N := by
  refine ⟨fun u hu => ?_, ?_, hn, Nat.le_refl _, ?_, ?_, ?_, ?_⟩
  · unfold onceU at hu
    rcases List.mem_append.1 hu with hu | hu
    · rw [(List.mem_replicate.1 hu).2]; exact mayP_nil l
    · rw [(List.mem_replicate.1 hu).2]; exact hp
  · unfold onceU; rw [takes_ret, takesU_ret]; exact h
  · unfold onceU; rw [finU_append, finU_reps, finU_reps]; rfl
  · unfold onceU; rw [takes_ret, takesU_ret, makes_ret, makesU_ret]; omega
  · unfold onceU; rw [takes_ret, takesU_ret]; omega
  · unfold onceU; rw [makes_ret, makesU_ret]; omega

def OrOps (ok : Prop) (o : List Opd) (w : World) (e : Ending) (w' : World) : Prop :=
  Below w.heap.size w w' ∧ ((∃ r : Int, r ≠ 0 ∧ e = .returned (.tuple #[.slice none 0 0, .int .i64 r])) ∨ (ok ∧ ∃ A c x, e = .returned (.tuple #[.slice A x.length c, .int .i64 0]) ∧ osOf x = o ∧ OpsC w' A x.length c x))
set_option maxRecDepth 100000 in
set_option maxHeartbeats 3200000 in
theorem format_any (sc : Nat) (l0 : List Ky) (i k : Nat) (j : Int) (A : Option Addr) (n c : Nat) (p : List Ch) (w : World) (hS : Sch w sc l0) (hj : j = (i : Int) + (k : Int)) (hik : i + k ≤ 1000000000000) (hn : n = p.length) (hr : RdCh w w.heap.size A p) (hb : n ≤ 64) (hv : okVs p)
    (hT : Lib.Utf8Tabs 1 2 w) :
    Calls Tryz.prog 57 #[.pointer (some ⟨sc, 0, none⟩), .int .i64 (i : Int), .int .i64 j, .slice A n c] w (OrOps (mayP l0 p = 0 ∧ partP l0 true p = []) (mkU (onceU i k p)) w) := by
  subst hj
  have hF : ∀ k, k = w.heap.size → w.heap.size ≤ k := fun k hk => by omega
  have hsub : IntKind.i64.wrap ((i : Int) + (k : Int) - (i : Int)) = (k : Int) := by rw [IntWalk.i64_in _ (by omega)]; omega
  have hsub' : wrap64 ((i : Int) + (k : Int) - (i : Int)) = (k : Int) := by rw [w64_in _ (by omega)]; omega
  obtain ⟨m1, hm1⟩ : ∃ m, mkRetain Mk.new (i : Int) [] = m := ⟨_, rfl⟩
  obtain ⟨m2, hm2⟩ : ∃ m, mkRetain m1 (k : Int) p = m := ⟨_, rfl⟩
  have T1 : Told m1 (List.replicate i (.ret [])) := by
    have := Told.new.retain (i : Int) [] (by simp; omega)
    rw [hm1, Int.toNat_natCast, List.nil_append] at this; exact this
  have TD : Hid (Told m2 (onceU i k p)) := Lib.hid (by
    have := T1.retain (k : Int) p (by rw [List.length_replicate]; omega)
    rw [hm2, Int.toNat_natCast] at this; exact this)
  have B1 : MkB m1 2 64 := by
    have := (MkB.new 64).retain (i : Int) (p := []) (by simp)
    rw [hm1] at this; exact this
  have B2 : Hid (MkB m2 4 64) := Lib.hid (by have := B1.retain (k : Int) (p := p) (by omega); rw [hm2] at this; exact this)
  have HB1 := Lib.hid B1
  have HM1 := Lib.hid hm1
  have HM2 := Lib.hid hm2
  have N := Lib.hid hn
  have HR := Lib.hid hr
  have HS := Lib.hid hS
  have HV := Lib.hid hv
  have HT := Lib.hid hT
  obtain ⟨mp, hmp⟩ : ∃ X, mayP l0 p = X := ⟨_, rfl⟩
  obtain ⟨pt, hpt⟩ : ∃ X, partP l0 true p = X := ⟨_, rfl⟩
  have MP := Lib.hid hmp
  have PT := Lib.hid hpt
  rw [hmp, hpt]
  clear hm1 hm2 T1 B1 hn hr hS hv hT hmp hpt hik
  go_enter Tryz.func57, Tryz.ntmps57
  go_wp2_with (go_at_call 135; refine Hid.out ?_)
  refine Lib.hid ?_
  refine (mayP_any sc l0 A n c p w N.out HR.out (by omega) HS.out HV.out HT.out).mono ?_
  rw [MP.out]
  rintro e w1 ⟨rfl, y1⟩
  have Y1 := Lib.hid y1
  clear y1
  by_cases h0 : mp = 0
  rotate_left
  · have h0' : (mp == 0) = false := beq_eq_false_iff_ne.2 h0
    have h0'' : (mp != 0) = true := by rw [bne, h0']; rfl
    go_wp2_with (fail)
    refine bodyPost_ret (v := .tuple #[.slice none 0 0, .int .i64 mp]) (by simp [results, Tryz.results57, go_sem]) rfl ?_
    exact ⟨Y1.out, .inl ⟨mp, h0, rfl⟩⟩
  subst h0
  go_wp2_with (go_at_call 94; refine Hid.out ?_)
  refine Lib.hid ?_
  refine (part_any sc l0 true A n c p w1 N.out (HR.out.ext Y1.out) (by omega) (HS.out.ext Y1.out)).mono ?_
  rw [PT.out]
  rintro e w2 ⟨A4, c4, rfl, _, y2⟩
  have Y2 := Lib.hid (ext_trans Y1.out y2)
  clear y2
  by_cases hp0 : pt = []
  rotate_left
  · have hlen : (0 : Int) < (pt.length : Int) := by have := List.length_pos_iff.2 hp0; omega
    go_wp2_with (fail)
    refine bodyPost_ret (v := .tuple #[.slice none 0 0, .int .i64 7]) (by simp [results, Tryz.results57, go_sem]) rfl ?_
    exact ⟨Y2.out, .inl ⟨7, by decide, rfl⟩⟩
  subst hp0
  have hlen : ¬ (0 : Int) < (([] : List Ch).length : Int) := by simp
  go_wp2_with (go_at_call 74; refine Hid.out ?_)
  refine Lib.hid ?_
  refine (mkNew_any w2).mono ?_
  rintro e w3 ⟨rfl, hm, y3⟩
  have HM := Lib.hid hm
  have YN := Lib.hid y3
  clear hm y3
  have hF2 : ∀ k, k = w2.heap.size → w2.heap.size ≤ k := fun k hk => by omega
  go_wp2_with (go_at_call 75; refine Hid.out ?_)
  refine Lib.hid ?_
  refine (mkRetain_any w2.heap.size none (i : Int) 0 0 [] w3 (fun k => k = w2.heap.size) Mk.new HM.out rfl Rd.nil (fun ad e => by cases e) (by simp) (by simp [Mk.new]) (fun o ho => by simp [Mk.new, mkGap] at ho)).mono ?_
  rw [HM1.out]
  rintro e w4 ⟨rfl, F2, hm2, g2⟩
  have y4 := Lib.hid (YN.out.trans (g2.below (B := w2.heap.size) hF2 YN.out.size))
  have low2 := Lib.hid (g2.low (B := w2.heap.size) hF2 YN.out.size)
  have HMA := Lib.hid hm2
  have RP := Lib.hid (HR.out.ext (ext_trans Y2.out y4.out))
  have RO : Hid (OffF F2 A p.length) := Lib.hid ((HR.out.ext Y2.out).offF low2.out)
  clear hm2 g2
  go_wp2_with (go_at_call 75; refine Hid.out ?_)
  refine Lib.hid ?_
  refine (mkRetain_any w2.heap.size A (k : Int) n c p w4 F2 m1 HMA.out N.out RP.out RO.out (by omega) (by have := HB1.out.len; omega) (fun o ho => by have := HB1.out.gap.2 o ho; omega)).mono ?_
  rw [HM2.out]
  rintro e w5 ⟨rfl, F3, hm3, g3⟩
  have y5 := Lib.hid (y4.out.trans (g3.below (B := w2.heap.size) low2.out y4.out.size))
  have HMB := Lib.hid hm3
  clear hm3 g3
  go_wp2_with (go_at_call 77; refine Hid.out ?_)
  refine Lib.hid ?_
  refine (mkOps_any w2.heap.size w5 F3 m2 HMB.out (by have := B2.out.len; omega) (fun o ho => by have := B2.out.gap.2 o ho; omega)).mono ?_
  intro e w6 hN
  have hN2 := NewOps.opC (hN.late y5.out) TD.out (fun u hu => by
    unfold onceU at hu
    rcases List.mem_append.1 hu with hu | hu
    · rw [(List.mem_replicate.1 hu).2]; intro c hc; cases hc
    · rw [(List.mem_replicate.1 hu).2]; exact HV.out) B2.out (by omega) (by omega)
  obtain ⟨A8, c8, x, rfl, hx, ox, yx⟩ := hN2
  have HX := Lib.hid hx
  have OX := Lib.hid ox
  have YX := Lib.hid (ext_trans Y2.out yx)
  clear hN hx ox yx
  go_wp2_with (fail)
  refine bodyPost_ret (v := .tuple #[.slice A8 x.length c8, .int .i64 0]) (by simp [results, Tryz.results57, go_sem]) rfl ?_
  exact ⟨YX.out, .inr ⟨by simp, A8, c8, x, rfl, HX.out, OX.out⟩⟩
theorem paraCl_any (b0 : Nat) (A : Option Addr) (n c : Nat) (k : Int) (w : World) (hx : w.heap[b0]? = some (.cells #[.slice A n c] 48 (0, 0))) :
    Calls Tryz.prog 138 #[.int .i64 k, .pointer (some ⟨b0, 0, none⟩)] w fun e w' => e = .returned (.slice A n c) ∧ w' = w := by
  have d0 := box_1 hx
  clear hx
  go_enter Tryz.func138, Tryz.ntmps138
  go_wp2_with (fail)
  go_ret
  exact ⟨rfl, rfl⟩
theorem compl_vs {l : List Ky} {p : List Ch} (hp : riseC p = true) (hv : okVs p) : okVs (completeP l p) := fun c hc => by
  rcases compl_mem hp hc with h | ⟨h, _⟩
  · exact hv c h
  · rw [h]
    exact ⟨by unfold okV goneK V.zero; simp, Nat.zero_le _⟩
set_option maxRecDepth 100000 in
set_option maxHeartbeats 3200000 in
theorem paragraph_any (sc : Nat) (l0 : List Ky) (A A2 : Option Addr) (n c n2 c2 : Nat) (l : List Nat) (p : List Ch) (w : World) (hS : Sch w sc l0) (hl0 : l0.length ≤ 64) (hn : n = p.length) (hr : RdCh w w.heap.size A p) (hb : n ≤ 64) (hv : okVs p)
    (hn2 : n2 = l.length) (h2 : RdInt w w.heap.size A2 (l.map (fun p : Nat => (p : Int)))) (hb2 : n2 ≤ 100000) (hl : ∀ p ∈ l, p ≤ 2000000000000)
    (hT : Lib.Utf8Tabs 1 2 w) :
    Calls Tryz.prog 58 #[.pointer (some ⟨sc, 0, none⟩), .slice A2 n2 c2, .slice A n c] w (OrOps (mayP l0 p = 0) (mkU (linesU (fun _ => completeP l0 p) 0 0 l)) w) := by
  have N := Lib.hid hn
  have HR := Lib.hid hr
  have HS := Lib.hid hS
  have HV := Lib.hid hv
  have HT := Lib.hid hT
  have N2 := Lib.hid hn2
  have R2 := Lib.hid h2
  have HL := Lib.hid hl
  have H64 := Lib.hid hl0
  obtain ⟨mp, hmp⟩ : ∃ X, mayP l0 p = X := ⟨_, rfl⟩
  have MP := Lib.hid hmp
  rw [hmp]
  clear hn hr hS hv hT hmp hn2 h2 hl hl0
  go_enter Tryz.func58, Tryz.ntmps58
  go_wp2_with (go_at_call 135; refine Hid.out ?_)
  refine Lib.hid ?_
  refine (mayP_any sc l0 A n c p w N.out HR.out (by omega) HS.out HV.out HT.out).mono ?_
  rw [MP.out]
  rintro e w1 ⟨rfl, y1⟩
  have Y1 := Lib.hid y1
  clear y1
  by_cases h0 : mp = 0
  rotate_left
  · have h0' : (mp == 0) = false := beq_eq_false_iff_ne.2 h0
    have h0'' : (mp != 0) = true := by rw [bne, h0']; rfl
    go_wp2_with (fail)
    refine bodyPost_ret (v := .tuple #[.slice none 0 0, .int .i64 mp]) (by simp [results, Tryz.results58, go_sem]) rfl ?_
    exact ⟨Y1.out, .inl ⟨mp, h0, rfl⟩⟩
  subst h0
  have RC : Hid (riseC p = true) := Lib.hid (mayP_zero MP.out).2.1
  have ML : Hid ((completeP l0 p).length ≤ 64) := Lib.hid (by have := compl_len (l := l0) (p := p) MP.out; have := H64.out; omega)
  go_wp2_with (go_at_call 136; refine Hid.out ?_)
  refine Lib.hid ?_
  refine (complete_any sc l0 A n c p w1 N.out (HR.out.ext Y1.out) (by omega) (HS.out.ext Y1.out) H64.out).mono ?_
  rintro e w2 ⟨r, er, A4, c4, rfl, hc, hlen, o4, y2⟩
  have yb := ext_alloc w2 (.cells #[.slice A4 r.length c4] 48)
  have hbx := heap_alloc_new w2 (.cells #[.slice A4 r.length c4] 48)
  rcases hc RC.out with ⟨_, rfl, rfl⟩ | ⟨_, rfl, rfl⟩
  · have Y2 := Lib.hid (ext_trans (ext_trans Y1.out y2) yb)
    clear y2 yb hbx o4 hlen
    go_wp2_with (fail)
    refine bodyPost_ret (v := .tuple #[.slice none 0 0, .int .i64 3]) (by simp [results, Tryz.results58, go_sem]) rfl ?_
    exact ⟨Y2.out, .inl ⟨3, by decide, rfl⟩⟩
  obtain ⟨W, hW⟩ : ∃ X, completeP l0 p = X := ⟨_, rfl⟩
  have HW := Lib.hid hW
  rw [hW] at o4 yb hbx ML hc hlen
  rw [hW]
  have O4 := Lib.hid (o4.below yb (Nat.le_refl _))
  have Y2 := Lib.hid (ext_trans (ext_trans Y1.out y2) yb)
  have YO := Lib.hid (ext_trans Y1.out y2)
  have HBX := Lib.hid hbx
  have SZ2 : Hid ((w2.alloc (.cells #[.slice A4 W.length c4] 48)).heap.size = w2.heap.size + 1) := Lib.hid (by simp)
  have OWB : Hid (∀ ad, A4 = some ad → 0 < W.length → w1.heap.size ≤ ad.block ∧ ad.block < w2.heap.size) := Lib.hid (fun ad e hl => by
    obtain ⟨ad', e', h1, _⟩ := (o4.rd Ch.enc_len) hl
    rw [e] at e'; injection e' with e'; subst e'
    subst e
    obtain ⟨g, cur, hA, _⟩ := o4.row hl
    have hc4 := (cap_own o4).1
    obtain ⟨c5, rfl⟩ : ∃ c5, c4 = c5 + 1 := ⟨c4 - 1, by omega⟩
    injection hA with hA
    subst hA
    have h2 := (o4.wb_lt g rfl).1
    exact ⟨h2, h1⟩)
  clear y2 yb hbx o4 hW hc hlen
  go_wp2_with (go_at_call 94; refine Hid.out ?_)
  refine Lib.hid ?_
  refine (part_any sc l0 false A n c p _ N.out (HR.out.ext Y2.out) (by omega) (HS.out.ext Y2.out)).mono ?_
  obtain ⟨pt, hpt⟩ : ∃ X, partP l0 false p = X := ⟨_, rfl⟩
  rw [hpt]
  clear hpt
  rintro e w3 ⟨A5, c5, rfl, _, y3⟩
  have HB3 := Lib.hid ((y3.block _ (lt_of_some HBX.out)).trans HBX.out)
  have O3 := Lib.hid (O4.out.below y3 (Nat.le_refl _))
  have Y3 := Lib.hid (ext_trans Y2.out y3)
  have SZ3 := Lib.hid y3.size
  clear y3
  by_cases hp0 : pt = []
  rotate_left
  · have hlen : (0 : Int) < (pt.length : Int) := by have := List.length_pos_iff.2 hp0; omega
    go_wp2_with (fail)
    refine bodyPost_ret (v := .tuple #[.slice none 0 0, .int .i64 7]) (by simp [results, Tryz.results58, go_sem]) rfl ?_
    exact ⟨Y3.out, .inl ⟨7, by decide, rfl⟩⟩
  subst hp0
  have hlen : ¬ (0 : Int) < (([] : List Ch).length : Int) := by simp
  go_wp2_with (go_at_call 137; refine Hid.out ?_)
  refine Lib.hid ?_
  refine (linesP_any w2.heap.size A2 n2 c2 l (fun _ => W) w3 N2.out (R2.out.ext Y3.out) hb2 HL.out (fun _ => ML.out) (fun _ => by rw [← HW.out]; exact compl_vs RC.out HV.out) (fun k w' hk yk => ?_)).mono ?_
  · have hx := (yk.block _ (lt_of_some HB3.out)).trans HB3.out
    refine (paraCl_any w2.heap.size A4 W.length c4 (k : Int) w' hx).mono ?_
    rintro e w'' ⟨rfl, rfl⟩
    have h3 := SZ3.out
    have h4 := SZ2.out
    exact ⟨A4, c4, rfl, (O3.out.below yk (Nat.le_refl _)).rd Ch.enc_len, fun ad e hl => .inl (by have := OWB.out ad e hl; omega), Below.refl _ _⟩
  · rintro e w4 ⟨A8, c8, x8, rfl, hx, ox, yx⟩
    have HX := Lib.hid hx
    have OX := Lib.hid ox
    have YX := Lib.hid (ext_trans Y3.out yx)
    clear hx ox yx
    go_wp2_with (fail)
    refine bodyPost_ret (v := .tuple #[.slice A8 x8.length c8, .int .i64 0]) (by simp [results, Tryz.results58, go_sem]) rfl ?_
    exact ⟨YX.out, .inr ⟨by simp, A8, c8, x8, rfl, (by rw [HW.out]; exact HX.out), OX.out⟩⟩

def nlsF (d : List Cl) (i : Nat) : Nat → List Nat
  | 0 => []
  | k + 1 => nlsF d i k ++ (match d[i + k]? with | some c => if c.r = 10 then [i + k] else [] | none => [])
theorem nls_mem {d : List Cl} {i : Nat} : ∀ {k q : Nat}, q ∈ nlsF d i k → i ≤ q ∧ q < i + k ∧ ∃ c, d[q]? = some c ∧ c.r = 10
  | 0, q, h => by cases h
  | k + 1, q, h => by
    rcases List.mem_append.1 h with h | h
    · obtain ⟨h1, h2, h3⟩ := nls_mem h
      exact ⟨h1, by omega, h3⟩
    · cases hd : d[i + k]? with
      | none => rw [hd] at h; cases h
      | some c =>
        rw [hd] at h
        simp only at h
        split at h
        · rename_i hr
          rw [List.mem_singleton] at h
          subst h
          exact ⟨by omega, by omega, c, hd, hr⟩
        · cases h
theorem nls_len (d : List Cl) (i : Nat) : ∀ k, (nlsF d i k).length ≤ k
  | 0 => Nat.le_refl _
  | k + 1 => by
    have ih := nls_len d i k
    have e : nlsF d i (k + 1) = nlsF d i k ++ (match d[i + k]? with | some c => if c.r = 10 then [i + k] else [] | none => []) := rfl
    rw [e, List.length_append]
    split
    · split <;> simp <;> omega
    · simp; omega
def riseN : Nat → List Nat → Prop
  | _, [] => True
  | f, p :: t => f ≤ p ∧ riseN (p + 1) t
theorem riseN_less {f g : Nat} (h : f ≤ g) : ∀ {l : List Nat}, riseN g l → riseN f l
  | [], _ => trivial
  | p :: t, hr => ⟨Nat.le_trans h hr.1, hr.2⟩
theorem riseN_snoc : ∀ {l : List Nat} {f q : Nat}, riseN f l → f ≤ q → (∀ p ∈ l, p < q) → riseN f (l ++ [q])
  | [], f, q, _, h, _ => ⟨h, trivial⟩
  | p :: t, f, q, hr, _, hl => ⟨hr.1, riseN_snoc hr.2 (hl p (by simp)) (fun x hx => hl x (List.mem_cons_of_mem _ hx))⟩
theorem nls_rise (d : List Cl) (i : Nat) : ∀ k, riseN i (nlsF d i k)
  | 0 => trivial
  | k + 1 => by
    have ih := nls_rise d i k
    have e : nlsF d i (k + 1) = nlsF d i k ++ (match d[i + k]? with | some c => if c.r = 10 then [i + k] else [] | none => []) := rfl
    rw [e]
    have hl : ∀ p ∈ nlsF d i k, p < i + k := fun p hp => (nls_mem hp).2.1
    split
    · split
      · exact riseN_snoc ih (by omega) hl
      · rw [List.append_nil]; exact ih
    · rw [List.append_nil]; exact ih
theorem linesU_takes (P : Nat → List Ch) : ∀ (l : List Nat) (k f n : Nat), riseN f l → (∀ p ∈ l, p < n) → f ≤ n → takesU (linesU P k f l) + f ≤ n ∧ makesU (linesU P k f l) = takesU (linesU P k f l)
  | [], k, f, n, _, _, h => ⟨by show 0 + f ≤ n; omega, rfl⟩
  | p :: t, k, f, n, hr, hl, h => by
    obtain ⟨h1, h2⟩ := linesU_takes P t (k + 1) (p + 1) n hr.2 (fun x hx => hl x (List.mem_cons_of_mem _ hx)) (by have := hl p (by simp); omega)
    have hp := hr.1
    rw [linesU, takes_ret, makes_ret, takesU_r, makesU_r, h2]
    omega
theorem linesU_vU {l0 : List Ky} {P : Nat → List Ch} (hP : ∀ k, mayP l0 (P k) = 0) : ∀ (l : List Nat) (k f : Nat), ∀ u ∈ linesU P k f l, vU l0 u
  | [], _, _ => fun u hu => by cases hu
  | p :: t, k, f => fun u hu => by
    rw [linesU] at hu
    rcases List.mem_append.1 hu with hu | hu
    · rw [(List.mem_replicate.1 hu).2]; exact mayP_nil l0
    · rcases List.mem_cons.1 hu with rfl | hu
      · exact hP k
      · exact linesU_vU hP t _ _ u hu
theorem linesU_ret {P : Nat → List Ch} : ∀ (l : List Nat) (k f : Nat), ∀ u ∈ linesU P k f l, ∃ q, u = .ret q
  | [], _, _ => fun u hu => by cases hu
  | p :: t, k, f => fun u hu => by
    rw [linesU] at hu
    rcases List.mem_append.1 hu with hu | hu
    · exact ⟨[], (List.mem_replicate.1 hu).2⟩
    · rcases List.mem_cons.1 hu with rfl | hu
      · exact ⟨_, rfl⟩
      · exact linesU_ret t _ _ u hu
theorem rets_at (l : List Ky) : ∀ (us : List Un) (d : List Cl), (∀ u ∈ us, ∃ q, u = .ret q) → takesU us ≤ d.length → (app l us d).length = d.length ∧ (app l us d).map (·.r) = d.map (·.r) ∧
    ∀ (i : Nat) (c : Cl), d[i]? = some c → (∀ q, us[i]? = some (.ret q) → partP l (c.r == 10) q = []) → (app l us d)[i]? = some c
  | [], d, _, _ => ⟨rfl, rfl, fun i c h _ => h⟩
  | u :: us, [], h, ht => by
    obtain ⟨q, rfl⟩ := h u (by simp)
    rw [takesU_r] at ht
    simp at ht
  | u :: us, c :: d, h, ht => by
    obtain ⟨q, rfl⟩ := h u (by simp)
    rw [takesU_r] at ht
    obtain ⟨h1, h2, h3⟩ := rets_at l us d (fun x hx => h x (List.mem_cons_of_mem _ hx)) (by simp at ht; omega)
    have e : app l (.ret q :: us) (c :: d) = actC l c q :: app l us d := rfl
    rw [e]
    refine ⟨by simp [h1], ?_, fun i x hx hq => ?_⟩
    · rw [List.map_cons, List.map_cons, h2]; rfl
    · cases i with
      | zero =>
        simp only [List.getElem?_cons_zero, Option.some.injEq] at hx hq ⊢
        subst hx
        have := hq q rfl
        unfold actC
        rw [this]
        cases c; rfl
      | succ i =>
        simp only [List.getElem?_cons_succ] at hx hq ⊢
        exact h3 i x hx hq
theorem linesU_at (W : List Ch) : ∀ (l : List Nat) (k f i : Nat) (q : List Ch), riseN f l → (linesU (fun _ => W) k f l)[i]? = some (.ret q) → q = [] ∨ (q = W ∧ f + i ∈ l)
  | [], k, f, i, q, _, h => by cases h
  | p :: t, k, f, i, q, hr, h => by
    rw [linesU] at h
    have hp := hr.1
    by_cases h1 : i < p - f
    · rw [List.getElem?_append_left (by simpa using h1), List.getElem?_replicate] at h
      rw [if_pos h1] at h
      injection h with h; injection h with h
      exact .inl h.symm
    · rw [List.getElem?_append_right (by simpa using h1)] at h
      simp only [List.length_replicate] at h
      obtain ⟨m, hm⟩ : ∃ m, i - (p - f) = m := ⟨_, rfl⟩
      rw [hm] at h
      cases m with
      | zero =>
        simp only [List.getElem?_cons_zero, Option.some.injEq, Un.ret.injEq] at h
        exact .inr ⟨h.symm, by rw [show f + i = p by omega]; simp⟩
      | succ m =>
        simp only [List.getElem?_cons_succ] at h
        rcases linesU_at W t (k + 1) (p + 1) m q hr.2 h with h | ⟨h, h2⟩
        · exact .inl h
        · exact .inr ⟨h, List.mem_cons_of_mem _ (by rw [show f + i = p + 1 + m by omega]; exact h2)⟩
theorem onceU_at {i n m : Nat} {p q : List Ch} (h : (onceU i n p)[m]? = some (.ret q)) : q = [] ∨ (q = p ∧ i ≤ m ∧ m < i + n) := by
  unfold onceU at h
  by_cases h1 : m < i
  · rw [List.getElem?_append_left (by simpa using h1), List.getElem?_replicate, if_pos h1] at h
    injection h with h; injection h with h
    exact .inl h.symm
  · rw [List.getElem?_append_right (by simpa using h1)] at h
    simp only [List.length_replicate, List.getElem?_replicate] at h
    split at h
    · injection h with h; injection h with h
      exact .inr ⟨h.symm, by omega, by omega⟩
    · cases h
theorem onceU_ret {i n : Nat} {p : List Ch} : ∀ u ∈ onceU i n p, ∃ q, u = .ret q := fun u hu => by
  unfold onceU at hu
  rcases List.mem_append.1 hu with hu | hu
  · exact ⟨[], (List.mem_replicate.1 hu).2⟩
  · exact ⟨p, (List.mem_replicate.1 hu).2⟩
theorem part_nilC (l : List Ky) (b : Bool) : partP l b [] = [] := rfl
theorem rets_fit {l : List Ky} {us : List Un} {n : Nat} (h : ∀ u ∈ us, ∃ q, u = .ret q) (hv : ∀ u ∈ us, vU l u) (ht : takesU us ≤ n) (hm : makesU us = takesU us) (h1 : 1 ≤ n) (hb : n ≤ 536870912) : FitU l us n n := by
  have fin : ∀ (us : List Un) (a : Nat), (∀ u ∈ us, ∃ q, u = .ret q) → a + takesU us ≤ n → finU n a us = true := by
    intro us
    induction us with
    | nil => intro a _ _; rfl
    | cons u us ih =>
      intro a h ht
      obtain ⟨q, rfl⟩ := h u (by simp)
      rw [takesU_r] at ht
      exact ih (a + 1) (fun x hx => h x (List.mem_cons_of_mem _ hx)) (by omega)
  exact ⟨hv, ht, h1, Nat.le_refl _, fin us 0 h (by omega), by omega, by omega, by omega⟩
theorem part_other {l : List Ky} {p : List Ch} {b : Bool} (h : partP l b p = []) {c : Cl} (hc : (c.r == 10) = b) : partP l (c.r == 10) p = [] := by rw [hc]; exact h
end Go.Proofs.YtfnkjcodcoehcaaGreatDoor
