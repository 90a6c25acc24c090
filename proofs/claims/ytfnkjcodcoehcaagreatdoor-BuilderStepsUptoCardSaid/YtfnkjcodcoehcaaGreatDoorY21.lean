/- Merged texts: RulesLaw, Complete. -/
import Derived.Test.YtfnkjcodcoehcaaGreatDoorY6
import Derived.Test.YtfnkjcodcoehcaaGreatDoorY18
import Derived.Test.YtfnkjcodcoehcaaGreatDoorY20
import Derived.Test.YtfnkjcodcoehcaaGreatDoorY9
namespace Go.Proofs.YtfnkjcodcoehcaaGreatDoor
set_option linter.unusedVariables false
set_option linter.unusedSimpArgs false

def goneK (k : Int) : Ch := ⟨k, true, V.zero⟩
def othersOf (l : List Ky) (p : List Ch) : List Int := (p.filter (fun c => !c.gone)).flatMap (fun c => groupL l c.key)
def setB (p : List Ch) (k : Int) : Bool := match lk Ch.key p k with | some c => !c.gone | none => false
def confP (l : List Ky) (p : List Ch) : Bool := (othersOf l p).any (setB p)
def complLk (os : List Int) (p : List Ch) (k : Int) : Option Ch := (lk Ch.key p k).or (if k ∈ os then some (goneK k) else none)
def complF (os : List Int) (p : List Ch) : List Ch := os.foldl (fun o k => composeP [goneK k] o) p
def completeP (l : List Ky) (p : List Ch) : List Ch := complF (othersOf l p) p

theorem complLk_nil (p : List Ch) (k : Int) : complLk [] p k = lk Ch.key p k := by simp [complLk]
theorem complLk_set {os : List Int} {p : List Ch} {k : Int} {c : Ch} (h : complLk os p k = some c) (hg : c.gone = false) : lk Ch.key p k = some c := by
  unfold complLk at h
  cases hl : lk Ch.key p k with
  | some d => rw [hl] at h; exact h
  | none =>
    rw [hl, Option.none_or] at h
    split at h
    · injection h with h; subst h; cases hg
    · cases h
theorem complLk_none {os : List Int} {p : List Ch} {k : Int} (h : complLk os p k = none) : lk Ch.key p k = none ∧ k ∉ os := by
  unfold complLk at h
  cases hl : lk Ch.key p k with
  | some d => rw [hl] at h; cases h
  | none =>
    rw [hl, Option.none_or] at h
    split at h
    · cases h
    · rename_i hm; exact ⟨rfl, hm⟩
theorem complLk_mem {os ps : List Int} (h : ∀ k, k ∈ os ↔ k ∈ ps) (p : List Ch) (k : Int) : complLk os p k = complLk ps p k := by
  unfold complLk
  by_cases hk : k ∈ os
  · rw [if_pos hk, if_pos ((h k).1 hk)]
  · rw [if_neg hk, if_neg (fun hh => hk ((h k).2 hh))]
theorem complLk_there {os : List Int} {p : List Ch} {o : Int} {c : Ch} (h : complLk os p o = some c) (hg : c.gone = true) (k : Int) : complLk (os ++ [o]) p k = complLk os p k := by
  unfold complLk
  cases hl : lk Ch.key p k with
  | some d => rfl
  | none =>
    simp only [Option.none_or, List.mem_append, List.mem_singleton]
    by_cases hk : k = o
    · subst hk
      unfold complLk at h
      rw [hl, Option.none_or] at h
      split at h
      · rename_i hm; rw [if_pos (Or.inl hm), if_pos hm]
      · cases h
    · simp [hk]
theorem complLk_new {os : List Int} {p : List Ch} {o : Int} (h : complLk os p o = none) (k : Int) : complLk (os ++ [o]) p k = if o = k then some (goneK k) else complLk os p k := by
  obtain ⟨h1, h2⟩ := complLk_none h
  unfold complLk
  by_cases hk : o = k
  · subst hk
    rw [h1, if_pos rfl]; simp
  · rw [if_neg hk]
    have : (k ∈ os ++ [o]) ↔ k ∈ os := by simp; intro e; exact absurd e.symm hk
    simp only [this]
theorem gone_srt (k : Int) : Srt Ch.key [goneK k] := (srt_cons Ch.key).2 ⟨by simp, Srt.nil Ch.key⟩
theorem complF_all (os : List Int) : ∀ {p : List Ch}, Srt Ch.key p → Srt Ch.key (complF os p) ∧ ∀ k, lk Ch.key (complF os p) k = complLk os p k := by
  induction os with
  | nil => intro p hp; exact ⟨hp, fun k => (complLk_nil p k).symm⟩
  | cons o os ih =>
    intro p hp
    obtain ⟨h1, h2, _⟩ := compose_all hp (gone_srt o)
    obtain ⟨g1, g2⟩ := ih h1
    refine ⟨g1, fun k => ?_⟩
    show lk Ch.key (complF os (composeP [goneK o] p)) k = _
    rw [g2 k]
    unfold complLk
    rw [h2 k, lk_cons, lk_nil, Option.or_assoc]
    congr 1
    by_cases hk : o = k
    · subst hk; simp [goneK]
    · have : ¬ k = o := fun e => hk e.symm
      have hk2 : ¬ (goneK o).key = k := hk
      rw [if_neg hk2]; simp [this]
theorem compl_ext {l : List Ky} {p r : List Ch} (hp : riseC p = true) (hr : riseC r = true) (h : ∀ k, lk Ch.key r k = complLk (othersOf l p) p k) : r = completeP l p := by
  obtain ⟨g1, g2⟩ := complF_all (othersOf l p) (riseC_srt.1 hp)
  exact lk_ext Ch.key (riseC_srt.1 hr) g1 (fun k => by rw [h k]; exact (g2 k).symm)

theorem insC_lk {l : List Ch} {c : Ch} {i : Nat} (h : FindOutC l c.key i false) (hr : riseC l = true) : riseC (insC l i c) = true ∧ ∀ k, lk Ch.key (insC l i c) k = if c.key = k then some c else lk Ch.key l k := by
  obtain ⟨hi, hb, hc⟩ := h
  obtain ⟨h1, h2⟩ := hc hr
  have hs := riseC_srt.1 hr
  have e : l = l.take i ++ l.drop i := (List.take_append_drop i l).symm
  have hs2 : Srt Ch.key (l.take i ++ l.drop i) := by rw [← e]; exact hs
  obtain ⟨s1, s2, s3⟩ := (srt_append Ch.key).1 hs2
  have a1 : ∀ a ∈ l.take i, a.key < c.key := by
    intro a ha
    obtain ⟨j, hj, rfl⟩ := List.getElem_of_mem ha
    have hj' : j < i ∧ j < l.length := by rw [List.length_take] at hj; omega
    refine h1 j _ hj'.1 ?_
    rw [List.getElem_take, List.getElem?_eq_getElem hj'.2]
  have a2 : ∀ a ∈ l.drop i, c.key < a.key := by
    intro a ha
    obtain ⟨j, hj, rfl⟩ := List.getElem_of_mem ha
    have hj' : i + j < l.length := by rw [List.length_drop] at hj; omega
    have e1 : l[i + j]? = some ((l.drop i)[j]) := by rw [List.getElem_drop, List.getElem?_eq_getElem hj']
    have h3 := h2 (i + j) _ (by omega) e1
    rcases Int.lt_or_le c.key ((l.drop i)[j]).key with h | h
    · exact h
    · exfalso
      have hk : ((l.drop i)[j]).key = c.key := by omega
      by_cases hj0 : j = 0
      · subst hj0
        have := hb.2 ⟨_, e1, hk⟩
        cases this
      · obtain ⟨b, hb0⟩ : ∃ b, l[i]? = some b := ⟨l[i], List.getElem?_eq_getElem (by omega)⟩
        have h4 := riseC_lt hr (x := i) (y := i + j) (by omega) hb0 e1
        have h5 := h2 i b (by omega) hb0
        omega
  have hsi : Srt Ch.key (insC l i c) := by
    unfold insC
    refine (srt_append Ch.key).2 ⟨s1, (srt_cons Ch.key).2 ⟨a2, s2⟩, fun a ha b hb => ?_⟩
    rcases List.mem_cons.1 hb with rfl | hb
    · exact a1 a ha
    · exact s3 a ha b hb
  refine ⟨riseC_srt.2 hsi, fun k => ?_⟩
  unfold insC
  rw [lk_append, lk_cons]
  by_cases hk : c.key = k
  · rw [if_pos hk, if_pos hk, lk_none Ch.key (fun a ha => by have := a1 a ha; omega)]; rfl
  · rw [if_neg hk, if_neg hk, ← lk_append, List.take_append_drop]
theorem findC_lk {l : List Ch} {k : Int} {i : Nat} {b : Bool} (h : FindOutC l k i b) (hr : riseC l = true) : (b = true → ∃ c, l[i]? = some c ∧ c.key = k ∧ lk Ch.key l k = some c) ∧ (b = false → lk Ch.key l k = none) := by
  obtain ⟨hi, hb, hc⟩ := h
  have hs := riseC_srt.1 hr
  constructor
  · intro h
    obtain ⟨c, h1, h2⟩ := hb.1 h
    refine ⟨c, h1, h2, ?_⟩
    rw [← h2]
    exact lk_of_mem Ch.key hs (List.mem_of_getElem? h1)
  · intro h
    subst h
    refine lk_none Ch.key (fun a ha hk => ?_)
    obtain ⟨h1, h2⟩ := hc hr
    obtain ⟨j, hj, rfl⟩ := List.getElem_of_mem ha
    have e1 : l[j]? = some l[j] := List.getElem?_eq_getElem hj
    rcases Nat.lt_trichotomy j i with hlt | heq | hgt
    · have := h1 j _ hlt e1; omega
    · subst heq
      have := hb.2 ⟨_, e1, hk⟩; cases this
    · obtain ⟨d, hd⟩ : ∃ d, l[i]? = some d := ⟨l[i]'(by omega), List.getElem?_eq_getElem (by omega)⟩
      have h4 := riseC_lt hr hgt hd e1
      have h5 := h2 i d (by omega) hd
      omega

theorem mem_othersOf {l : List Ky} {p : List Ch} {k : Int} : k ∈ othersOf l p ↔ ∃ c ∈ p, c.gone = false ∧ k ∈ groupL l c.key := by
  simp [othersOf, and_assoc]
theorem othersOf_snoc (l : List Ky) (p : List Ch) (c : Ch) : othersOf l (p ++ [c]) = othersOf l p ++ (if c.gone = true then [] else groupL l c.key) := by
  unfold othersOf
  rw [List.filter_append, List.flatMap_append]
  cases hc : c.gone <;> simp [hc]
theorem conf_mem {l : List Ky} {p : List Ch} {c d : Ch} {o : Int} (hc : c ∈ p) (hg : c.gone = false) (ho : o ∈ groupL l c.key) (hl : lk Ch.key p o = some d) (hd : d.gone = false) : confP l p = true := by
  unfold confP
  rw [List.any_eq_true]
  exact ⟨o, mem_othersOf.2 ⟨c, hc, hg, ho⟩, by simp [setB, hl, hd]⟩
open Go.RowKit

theorem Ow.kept {α : Type} {enc : α → List Value} {size : Nat} {e : TypeId} {w w' : World} {base : Nat} {v : Value} {l : List α} {o : Option Nat} (h : Ow enc size e w base v l) (k : Kept o w w') (hne : ∀ j, wb v = some j → o ≠ some j) : Ow enc size e w' base v l :=
  h.keep fun j hj => k j (h.wb_lt j hj).2 (hne j hj)
def ComplInv (l : List Ky) (p r : List Ch) (D : Int → Prop) : Prop :=
  riseC p = true → ∃ os : List Int, riseC r = true ∧ (∀ k, lk Ch.key r k = complLk os p k) ∧ (∀ k, k ∈ os ↔ D k) ∧ os.any (setB p) = false
theorem ComplInv.congr {l : List Ky} {p r : List Ch} {D D' : Int → Prop} (h : ComplInv l p r D) (hd : ∀ k, D k ↔ D' k) : ComplInv l p r D' := fun hp => by
  obtain ⟨os, h1, h2, h3, h4⟩ := h hp
  exact ⟨os, h1, h2, fun k => (h3 k).trans (hd k), h4⟩
theorem ComplInv.there {l : List Ky} {p r : List Ch} {D : Int → Prop} {o : Int} {i : Nat} {d : Ch} (h : ComplInv l p r D) (hf : FindOutC r o i true) (hd : r[i]? = some d) (hg : d.gone = true) : ComplInv l p r (fun k => D k ∨ k = o) := fun hp => by
  obtain ⟨os, h1, h2, h3, h4⟩ := h hp
  obtain ⟨c, e1, e2, e3⟩ := (findC_lk hf h1).1 rfl
  rw [hd] at e1; injection e1 with e1; subst e1
  have e4 : complLk os p o = some d := by rw [← h2 o]; exact e3
  refine ⟨os ++ [o], h1, fun k => by rw [complLk_there e4 hg k]; exact h2 k, fun k => by simp [h3 k], ?_⟩
  rw [List.any_append, h4]
  simp only [List.any_cons, List.any_nil, Bool.or_false, Bool.false_or]
  unfold setB
  cases hl : lk Ch.key p o with
  | none => rfl
  | some c =>
    unfold complLk at e4
    rw [hl] at e4
    injection e4 with e4; subst e4
    simp [hg]
theorem ComplInv.new {l : List Ky} {p r : List Ch} {D : Int → Prop} {o : Int} {i : Nat} (h : ComplInv l p r D) (hf : FindOutC r o i false) : ComplInv l p (insC r i (goneK o)) (fun k => D k ∨ k = o) := fun hp => by
  obtain ⟨os, h1, h2, h3, h4⟩ := h hp
  have e3 := (findC_lk hf h1).2 rfl
  have e4 : complLk os p o = none := by rw [← h2 o]; exact e3
  obtain ⟨g1, g2⟩ := insC_lk (c := goneK o) hf h1
  refine ⟨os ++ [o], g1, fun k => by
    rw [g2 k, complLk_new e4 k, ← h2 k]
    by_cases hk : o = k
    · subst hk; rfl
    · rw [if_neg hk, if_neg (show ¬ (goneK o).key = k from hk)], fun k => by simp [h3 k], ?_⟩
  rw [List.any_append, h4]
  simp only [List.any_cons, List.any_nil, Bool.or_false, Bool.false_or]
  unfold setB
  rw [(complLk_none e4).1]
theorem ComplInv.conf {l : List Ky} {p r : List Ch} {D : Int → Prop} {o : Int} {i : Nat} {c d : Ch} (h : ComplInv l p r D) (hf : FindOutC r o i true) (hd : r[i]? = some d) (hg : d.gone = false) (hc : c ∈ p) (hcg : c.gone = false) (ho : o ∈ groupL l c.key) : riseC p = true → confP l p = true := fun hp => by
  obtain ⟨os, h1, h2, h3, h4⟩ := h hp
  obtain ⟨c', e1, e2, e3⟩ := (findC_lk hf h1).1 rfl
  rw [hd] at e1; injection e1 with e1; subst e1
  exact conf_mem hc hcg ho (complLk_set (by rw [← h2 o]; exact e3) hg) hg
theorem ComplInv.done {l : List Ky} {p r : List Ch} (h : ComplInv l p r (fun k => k ∈ othersOf l p)) (hp : riseC p = true) : confP l p = false ∧ r = completeP l p := by
  obtain ⟨os, h1, h2, h3, h4⟩ := h hp
  refine ⟨?_, compl_ext hp h1 (fun k => by rw [h2 k]; exact complLk_mem h3 p k)⟩
  unfold confP
  rw [Bool.eq_false_iff] at h4 ⊢
  intro hh
  obtain ⟨k, hk, hs⟩ := List.any_eq_true.1 hh
  exact h4 (List.any_eq_true.2 ⟨k, (h3 k).2 hk, hs⟩)

def ComplOut (l : List Ky) (p : List Ch) (w : World) (e : Ending) (w' : World) : Prop :=
  ∃ (r : List Ch) (er : Int) (A : Option Addr) (c : Nat), e = .returned (.tuple #[.slice A r.length c, .int .i64 er]) ∧ (riseC p = true → confP l p = true ∧ er = 3 ∧ r = [] ∨ confP l p = false ∧ er = 0 ∧ r = completeP l p) ∧ r.length ≤ p.length + p.length * 64 ∧ OwCh w' w.heap.size (.slice A r.length c) r ∧ Below w.heap.size w w'

theorem take_mem {g : List Int} {j : Nat} {o : Int} (h : g[j]? = some o) (k : Int) : (k ∈ g.take j ∨ k = o) ↔ k ∈ g.take (j + 1) := by
  obtain ⟨hj, he⟩ := List.getElem?_eq_some_iff.1 h
  rw [List.take_succ_eq_append_getElem hj, he]; simp

set_option maxRecDepth 100000 in
set_option maxHeartbeats 4000000 in
theorem complete_any (s : Nat) (l : List Ky) (A : Option Addr) (n c : Nat) (p : List Ch) (w : World) (hn : n = p.length) (h : RdCh w w.heap.size A p) (hb : n ≤ 100000) (hS : Sch w s l) (hl : l.length ≤ 64) :
    Calls Tryz.prog 136 #[.pointer (some ⟨s, 0, none⟩), .slice A n c] w (ComplOut l p w) := by
  have N := Lib.hid hn
  have HS := Lib.hid hS
  clear hn hS
  go_enter Tryz.func136, Tryz.ntmps136
  go_wp2_with (go_at_call 168; refine Hid.out ?_)
  refine Lib.hid ?_
  refine (cloneCh_any A n c p w N.out h (by omega)).mono ?_
  rintro e w1 ⟨A1, c1, rfl, ho, y1⟩
  have HO := Lib.hid ho
  clear ho
  go_wp2_with (fail)
  go_loopg [6, 17] n (fun g ov iv wr => ∃ (m : Nat) (r : List Ch) (A6 : Option Addr) (c6 : Nat), m ≤ n ∧ g = n - m ∧ ov = .slice A6 r.length c6 ∧ iv = .int .i64 (m : Int) ∧ OwCh wr w.heap.size (.slice A6 r.length c6) r ∧ r.length ≤ n + m * 64 ∧ Below w.heap.size w wr ∧ Hid (ComplInv l p r (fun k => k ∈ othersOf l (p.take m))))
  case atStart => exact ⟨0, p, A1, c1, by omega, rfl, rfl, rfl, HO.out, by have := N.out; omega, y1, Lib.hid (fun hp => ⟨[], hp, fun k => (complLk_nil p k).symm, fun k => by simp [othersOf], rfl⟩)⟩
  case round =>
    obtain ⟨m, r, A6, c6, hm, hg, rfl, rfl, hown, hrl, y, HI⟩ := hrel
    have HG := Lib.hid hg
    clear hg
    by_cases hlt : m < n
    · obtain ⟨ad, x, rfl, had, hd1, hx1, hc0⟩ := (h.below y (Nat.le_refl _)).el (i := m) (by have := N.out; omega)
      have hsn := othersOf_snoc l (p.take m) x
      rw [← take_snoc hx1] at hsn
      have HX := Lib.hid (List.mem_of_getElem? hx1)
      obtain ⟨x1, x6, x2, x3, x4, x5⟩ := x
      have HSN := Lib.hid hsn
      obtain ⟨r0, r1, r2, r3, r4, r5⟩ := ch_cells hc0
      clear hc0 hd1 hx1 hsn
      have yb := ext_alloc wr (.cells #[.int .i64 x1, .bool x6, .int .u8 x2, .int .i64 x3, .int .u64 x4, .string x5] 77)
      have HOW := Lib.hid (hown.below yb (Nat.le_refl _))
      have y2 := ext_trans y yb
      have hw2 : IntKind.i64.wrap ((m:Int) + 1) = (m : Int) + 1 := IntWalk.i64_in _ (by omega)
      obtain ⟨nr, hnr⟩ : ∃ nr, nr = r.length := ⟨_, rfl⟩
      rw [← hnr] at HOW hrl ⊢
      have NR := Lib.hid hnr
      clear hown hnr
      cases x6 with
      | true =>
        go_wp2_with (fail)
        go_roundg (n - (m + 1))
        case measure => have := HG.out; omega
        case rel =>
          refine ⟨m + 1, r, A6, c6, by omega, rfl, by rw [NR.out], by go_num, by rw [← NR.out]; exact HOW.out, by have := NR.out; omega, y2, Lib.hid (HI.out.congr fun k => ?_)⟩
          rw [HSN.out]; simp
      | false =>
        go_wp2_with (go_at_call 189; refine Hid.out ?_)
        refine Lib.hid ?_
        refine (groupS_any s l x1 _ (HS.out.ext y2) (by omega)).mono ?_
        rintro e w3 ⟨g, Ag, cg, rfl, hgp, hgl, hgo, y3⟩
        have HOW3 := Lib.hid (HOW.out.below y3 (Nat.le_refl _))
        have hdis : ∀ k, wb (.slice Ag g.length cg) = some k → wb (.slice A6 nr c6) ≠ some k := fun k hk he => by
          have h1 := (hgo.wb_lt k hk).1
          have h2 := (HOW.out.wb_lt k he).2
          omega
        have y4 := ext_trans y2 y3
        obtain ⟨ng, hng⟩ : ∃ ng, ng = g.length := ⟨_, rfl⟩
        rw [← hng] at hgo hdis hgl ⊢
        have NG := Lib.hid hng
        have GP := Lib.hid hgp
        have HGO := Lib.hid hgo
        have HDI := Lib.hid hdis
        clear hng hgp hgo hdis r0 r1 r2 r3 r4 r5
        go_wp2_with (fail)
        obtain ⟨lo, hlo⟩ : ∃ lo, lo = (wr.alloc (.cells #[.int .i64 x1, .bool false, .int .u8 x2, .int .i64 x3, .int .u64 x4, .string x5] 77)).heap.size := ⟨_, rfl⟩
        rw [← hlo] at HGO
        clear hlo
        go_loopg [6, 28] ng (fun gh ov iv wi => ∃ (j : Nat) (r : List Ch) (A6 : Option Addr) (c6 : Nat), j ≤ ng ∧ gh = ng - j ∧ ov = .slice A6 r.length c6 ∧ iv = .int .i64 (j : Int) ∧ OwCh wi w.heap.size (.slice A6 r.length c6) r ∧ r.length ≤ n + m * 64 + j ∧ Below w.heap.size w wi ∧
          OwInt wi lo (.slice Ag ng cg) g ∧ Hid (∀ k, wb (.slice Ag ng cg) = some k → wb (.slice A6 r.length c6) ≠ some k) ∧ Hid (ComplInv l p r (fun k => k ∈ othersOf l (p.take m) ∨ k ∈ g.take j)))
        case atStart => exact ⟨0, r, A6, c6, by omega, rfl, by rw [← NR.out], rfl, by rw [← NR.out]; exact HOW3.out, by have := NR.out; omega, y4, HGO.out, by rw [← NR.out]; exact HDI, Lib.hid (HI.out.congr fun k => by simp)⟩
        case round =>
          clear HI HOW HOW3 HGO HDI NR hrl y y2 y3 y4 yb
          obtain ⟨j, r, A6, c6, hj, hg2, rfl, rfl, hown, hrl, y, hgo, HDI, HI⟩ := hrel
          have HG2 := Lib.hid hg2
          clear hg2
          obtain ⟨nr, hnr⟩ : ∃ nr, nr = r.length := ⟨_, rfl⟩
          rw [← hnr] at hown hrl HDI ⊢
          have NR := Lib.hid hnr
          have HOW := Lib.hid hown
          have HGO := Lib.hid hgo
          clear hown hnr hgo
          by_cases hlj : j < ng
          · obtain ⟨ad2, o, hag, _, _, ho1, hoc⟩ := (HGO.out.rd encInt_len).el (i := j) (by have := NG.out; omega)
            subst hag
            have q0 : _ = some (Value.int .i64 o) := hoc 0 _ rfl
            rw [add_zero', Nat.mul_one] at q0
            have HMEM := Lib.hid (GP.out.mem_iff.1 (List.mem_of_getElem? ho1))
            have HTM := Lib.hid (take_mem ho1)
            have hw3 : IntKind.i64.wrap ((j:Int) + 1) = (j : Int) + 1 := IntWalk.i64_in _ (by omega)
            clear ho1 hoc
            go_wp2_with (go_at_call 190; refine Hid.out ?_)
            refine Lib.hid ?_
            refine (atC_any A6 nr c6 r o _ NR.out (HOW.out.rd Ch.enc_len) (by omega)).mono ?_
            rintro e w5 ⟨i, th, rfl, hf, y5⟩
            have HOW5 := Lib.hid (HOW.out.below y5 (Nat.le_refl _))
            have HGO5 := Lib.hid (HGO.out.below y5 (Nat.le_refl _))
            have yz := ext_trans y y5
            have hir : i ≤ nr := by have := hf.1; have := NR.out; omega
            have HF := Lib.hid hf
            clear hf q0
            cases th with
            | true =>
              obtain ⟨d, hd1, hd2⟩ := HF.out.2.1.1 rfl
              obtain ⟨ad3, d', ha3, _, _, hd3, hdc⟩ := (HOW5.out.rd Ch.enc_len).el (i := i) (List.getElem?_eq_some_iff.1 hd1).1
              have hil : i < nr := by have := (List.getElem?_eq_some_iff.1 hd1).1; have := NR.out; omega
              rw [hd1] at hd3; injection hd3 with hd3; subst hd3 ha3
              have HD1 := Lib.hid hd1
              obtain ⟨d1, d6, d2, d3, d4, d5⟩ := d
              obtain ⟨f0, f1, f2, f3, f4, f5⟩ := ch_cells hdc
              clear hd1 hd2 hdc
              cases d6 with
              | true =>
                go_wp2_with (fail)
                go_roundg (ng - (j + 1))
                case measure => have := HG2.out; omega
                case rel =>
                  refine ⟨j + 1, r, _, c6, by omega, rfl, by rw [← NR.out], by go_num, by rw [← NR.out]; exact HOW5.out, by have := NR.out; omega, yz, HGO5.out, by rw [← NR.out]; exact HDI, Lib.hid ((HI.out.there HF.out HD1.out rfl).congr fun k => ?_)⟩
                  rw [← HTM.out k, or_assoc]
              | false =>
                go_wp2_with (fail)
                refine bodyPost_ret (v := .tuple #[.slice none 0 0, .int .i64 3]) (by simp [results, Tryz.results136, go_sem]) rfl ?_
                exact ⟨[], 3, none, 0, rfl, fun hp => .inl ⟨HI.out.conf HF.out HD1.out rfl HX.out rfl HMEM.out hp, rfl, rfl⟩, by simp, Ow.nil _ _, yz⟩
            | false =>
              have hv := heap_alloc_new w5 (.cells #[.int .i64 o, .bool true, .int .u8 0, .int .i64 0, .int .u64 0, .string ⟨#[]⟩] 77)
              have HV := Lib.hid hv
              have ya := ext_alloc w5 (.cells #[.int .i64 o, .bool true, .int .u8 0, .int .i64 0, .int .u64 0, .string ⟨#[]⟩] 77)
              have HOW6 := Lib.hid (HOW5.out.below ya (Nat.le_refl _))
              have HGO6 := Lib.hid (HGO5.out.below ya (Nat.le_refl _))
              have yq := ext_trans yz ya
              have hsz : w.heap.size ≤ (w5.alloc (.cells #[.int .i64 o, .bool true, .int .u8 0, .int .i64 0, .int .u64 0, .string ⟨#[]⟩] 77)).heap.size := yq.size
              clear hv
              go_wp2_with (go_at_call 191; refine Hid.out ?_)
              refine Lib.hid ?_
              refine (insertC_any A6 nr c6 w.heap.size w5.heap.size i r o true 0 0 0 ⟨#[]⟩ _ HOW6.out NR.out (by omega) hsz HV.out hir (fun h => absurd (HOW5.out.wb_lt _ h).2 (Nat.lt_irrefl _))).mono ?_
              rintro e w7 ⟨A7, c7, rfl, ho7, hb7, hk7⟩
              have y7 := yq.trans hb7
              have hln : nr + 1 = (insC r i (goneK o)).length := by rw [insC_len _ _ _ (by have := NR.out; omega), ← NR.out]
              have HLN := Lib.hid hln
              have HO7 := Lib.hid ho7
              have HGO7 := Lib.hid (HGO6.out.kept hk7.1 HDI.out)
              have HDI7 : Hid (∀ k, wb (.slice (some ad2) ng cg) = some k → wb (.slice A7 (nr + 1) c7) ≠ some k) := Lib.hid (fun k hk he => by
                rcases hk7.2 k he with h1 | h1
                · exact HDI.out k hk h1
                · have := (HGO6.out.wb_lt k hk).2; omega)
              clear hln ho7 hk7
              go_wp2_with (fail)
              go_roundg (ng - (j + 1))
              case measure => have := HG2.out; omega
              case rel =>
                refine ⟨j + 1, insC r i (goneK o), A7, c7, by omega, rfl, by rw [← HLN.out], by go_num, by rw [← HLN.out]; exact HO7.out, by have := HLN.out; omega, y7, HGO7.out, by rw [← HLN.out]; exact HDI7, Lib.hid ((HI.out.new HF.out).congr fun k => ?_)⟩
                rw [← HTM.out k, or_assoc]
          · have hjn : j = ng := by omega
            have HJ := Lib.hid hjn
            clear hjn
            go_wp2_with (fail)
            go_roundg (n - (m + 1))
            case measure => have := HG.out; omega
            case rel =>
              refine ⟨m + 1, r, A6, c6, by omega, rfl, by rw [← NR.out], by go_num, by rw [← NR.out]; exact HOW.out, by have := NR.out; omega, y, Lib.hid (HI.out.congr fun k => ?_)⟩
              rw [HSN.out, HJ.out, NG.out, List.take_length, List.mem_append, GP.out.mem_iff]
              simp
    · have hmn : m = n := by omega
      have HMN := Lib.hid hmn
      have HOW := Lib.hid hown
      clear hown hmn
      go_wp2_with (fail)
      refine bodyPost_ret (v := .tuple #[.slice A6 r.length c6, .int .i64 0]) (by simp [results, Tryz.results136, go_sem]) rfl ?_
      refine ⟨r, 0, A6, c6, rfl, fun hp => .inr ?_, by have := N.out; omega, HOW.out, y⟩
      have e : p.take m = p := List.take_of_length_le (by have := N.out; have := HMN.out; omega)
      have h1 := HI.out
      rw [e] at h1
      obtain ⟨g1, g2⟩ := h1.done hp
      exact ⟨g1, rfl, g2⟩
end Go.Proofs.YtfnkjcodcoehcaaGreatDoor
