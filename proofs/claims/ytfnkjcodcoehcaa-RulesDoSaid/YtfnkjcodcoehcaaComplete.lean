/- The walk of rules.Complete. -/
import Derived.Test.YtfnkjcodcoehcaaRulesLaw
import Derived.Test.YtfnkjcodcoehcaaClone
import Derived.Test.YtfnkjcodcoehcaaAttrsLaw
namespace Go.Proofs.Ytfnkjcodcoehcaa
open Go.RowKit
set_option linter.unusedVariables false
set_option linter.unusedSimpArgs false

theorem Ow.kept {α : Type} {enc : α → List Value} {size : Nat} {e : TypeId} {w w' : World} {base : Nat} {v : Value} {l : List α} {o : Option Nat} (h : Ow enc size e w base v l) (k : Kept o w w') (hne : ∀ j, wb v = some j → o ≠ some j) : Ow enc size e w' base v l :=
  h.keep fun j hj => k j (h.wb_lt j hj).2 (hne j hj)
/-- what is known of the row while it grows -/
def ComplInv (l : List Ky) (p r : List Ch) (D : Int → Prop) : Prop :=
  riseC p = true → ∃ os : List Int, riseC r = true ∧ (∀ k, lk Ch.key r k = complLk os p k) ∧ (∀ k, k ∈ os ↔ D k) ∧ os.any (setB p) = false
theorem ComplInv.congr {l : List Ky} {p r : List Ch} {D D' : Int → Prop} (h : ComplInv l p r D) (hd : ∀ k, D k ↔ D' k) : ComplInv l p r D' := fun hp => by
  obtain ⟨os, h1, h2, h3, h4⟩ := h hp
  exact ⟨os, h1, h2, fun k => (h3 k).trans (hd k), h4⟩
theorem ComplInv.there {l : List Ky} {p r : List Ch} {D : Int → Prop} {o : Int} {i : Nat} {d : Ch} (h : ComplInv l p r D) (hf : FindOutC r o i true) (hd : r[i]? = some d) (hg : d.gone = true) : ComplInv l p r (fun k => D k ∨ k = o) := fun hp => by
  obtain ⟨os, h1, h2, h3, h4⟩ := h hp
  obtain ⟨c, e1, e2, e3⟩ := (findC_lk hf h1).1 rfl
  rw [hd] at e1; injection e1 with e1; subst e1
  have e4 : complLk os p o = some d := by rw [← h2 o]; exact e3
  refine ⟨os ++ [o], h1, fun k => by rw [complLk_there e4 hg k]; exact h2 k, fun k => by simp [h3 k], ?_⟩
  rw [List.any_append, h4]
  simp only [List.any_cons, List.any_nil, Bool.or_false, Bool.false_or]
  unfold setB
  cases hl : lk Ch.key p o with
  | none => rfl
  | some c =>
    unfold complLk at e4
    rw [hl] at e4
    injection e4 with e4; subst e4
    simp [hg]
theorem ComplInv.new {l : List Ky} {p r : List Ch} {D : Int → Prop} {o : Int} {i : Nat} (h : ComplInv l p r D) (hf : FindOutC r o i false) : ComplInv l p (insC r i (goneK o)) (fun k => D k ∨ k = o) := fun hp => by
  obtain ⟨os, h1, h2, h3, h4⟩ := h hp
  have e3 := (findC_lk hf h1).2 rfl
  have e4 : complLk os p o = none := by rw [← h2 o]; exact e3
  obtain ⟨g1, g2⟩ := insC_lk (c := goneK o) hf h1
  refine ⟨os ++ [o], g1, fun k => by
    rw [g2 k, complLk_new e4 k, ← h2 k]
    by_cases hk : o = k
    · subst hk; rfl
    · rw [if_neg hk, if_neg (show ¬ (goneK o).key = k from hk)], fun k => by simp [h3 k], ?_⟩
  rw [List.any_append, h4]
  simp only [List.any_cons, List.any_nil, Bool.or_false, Bool.false_or]
  unfold setB
  rw [(complLk_none e4).1]
theorem ComplInv.conf {l : List Ky} {p r : List Ch} {D : Int → Prop} {o : Int} {i : Nat} {c d : Ch} (h : ComplInv l p r D) (hf : FindOutC r o i true) (hd : r[i]? = some d) (hg : d.gone = false) (hc : c ∈ p) (hcg : c.gone = false) (ho : o ∈ groupL l c.key) : riseC p = true → confP l p = true := fun hp => by
  obtain ⟨os, h1, h2, h3, h4⟩ := h hp
  obtain ⟨c', e1, e2, e3⟩ := (findC_lk hf h1).1 rfl
  rw [hd] at e1; injection e1 with e1; subst e1
  exact conf_mem hc hcg ho (complLk_set (by rw [← h2 o]; exact e3) hg) hg
theorem ComplInv.done {l : List Ky} {p r : List Ch} (h : ComplInv l p r (fun k => k ∈ othersOf l p)) (hp : riseC p = true) : confP l p = false ∧ r = completeP l p := by
  obtain ⟨os, h1, h2, h3, h4⟩ := h hp
  refine ⟨?_, compl_ext hp h1 (fun k => by rw [h2 k]; exact complLk_mem h3 p k)⟩
  unfold confP
  rw [Bool.eq_false_iff] at h4 ⊢
  intro hh
  obtain ⟨k, hk, hs⟩ := List.any_eq_true.1 hh
  exact h4 (List.any_eq_true.2 ⟨k, (h3 k).2 hk, hs⟩)

/-- what Complete answers -/
def ComplOut (l : List Ky) (p : List Ch) (w : World) (e : Ending) (w' : World) : Prop :=
  ∃ (r : List Ch) (er : Int) (A : Option Addr) (c : Nat), e = .returned (.tuple #[.slice A r.length c, .int .i64 er]) ∧ (riseC p = true → confP l p = true ∧ er = 3 ∧ r = [] ∨ confP l p = false ∧ er = 0 ∧ r = completeP l p) ∧ r.length ≤ p.length + p.length * 64 ∧ OwCh w' w.heap.size (.slice A r.length c) r ∧ Below w.heap.size w w'

theorem take_mem {g : List Int} {j : Nat} {o : Int} (h : g[j]? = some o) (k : Int) : (k ∈ g.take j ∨ k = o) ↔ k ∈ g.take (j + 1) := by
  obtain ⟨hj, he⟩ := List.getElem?_eq_some_iff.1 h
  rw [List.take_succ_eq_append_getElem hj, he]; simp

set_option maxRecDepth 100000 in
set_option maxHeartbeats 4000000 in
theorem complete_any (s : Nat) (l : List Ky) (A : Option Addr) (n c : Nat) (p : List Ch) (w : World) (hn : n = p.length) (h : RdCh w w.heap.size A p) (hb : n ≤ 100000) (hS : Sch w s l) (hl : l.length ≤ 64) :
    Calls Try.prog 10 #[.pointer (some ⟨s, 0, none⟩), .slice A n c] w (ComplOut l p w) := by
  have N := Lib.hid hn
  have HS := Lib.hid hS
  clear hn hS
  go_enter Try.func10, Try.ntmps10
  go_wp2_with (go_at_call 25; refine Hid.out ?_)
  refine Lib.hid ?_
  refine (cloneCh_any A n c p w N.out h (by omega)).mono ?_
  rintro e w1 ⟨A1, c1, rfl, ho, y1⟩
  have HO := Lib.hid ho
  clear ho
  go_wp2_with (fail)
  go_loopg [6, 17] n (fun g ov iv wr => ∃ (m : Nat) (r : List Ch) (A6 : Option Addr) (c6 : Nat), m ≤ n ∧ g = n - m ∧ ov = .slice A6 r.length c6 ∧ iv = .int .i64 (m : Int) ∧ OwCh wr w.heap.size (.slice A6 r.length c6) r ∧ r.length ≤ n + m * 64 ∧ Below w.heap.size w wr ∧ Hid (ComplInv l p r (fun k => k ∈ othersOf l (p.take m))))
  case atStart => exact ⟨0, p, A1, c1, by omega, rfl, rfl, rfl, HO.out, by have := N.out; omega, y1, Lib.hid (fun hp => ⟨[], hp, fun k => (complLk_nil p k).symm, fun k => by simp [othersOf], rfl⟩)⟩
  case round =>
    obtain ⟨m, r, A6, c6, hm, hg, rfl, rfl, hown, hrl, y, HI⟩ := hrel
    have HG := Lib.hid hg
    clear hg
    by_cases hlt : m < n
    · obtain ⟨ad, x, rfl, had, hd1, hx1, hc0⟩ := (h.below y (Nat.le_refl _)).el (i := m) (by have := N.out; omega)
      have hsn := othersOf_snoc l (p.take m) x
      rw [← take_snoc hx1] at hsn
      have HX := Lib.hid (List.mem_of_getElem? hx1)
      obtain ⟨x1, x6, x2, x3, x4, x5⟩ := x
      have HSN := Lib.hid hsn
      obtain ⟨r0, r1, r2, r3, r4, r5⟩ := ch_cells hc0
      clear hc0 hd1 hx1 hsn
      have yb := ext_alloc wr (.cells #[.int .i64 x1, .bool x6, .int .u8 x2, .int .i64 x3, .int .u64 x4, .string x5] 49)
      have HOW := Lib.hid (hown.below yb (Nat.le_refl _))
      have y2 := ext_trans y yb
      have hw2 : IntKind.i64.wrap ((m:Int) + 1) = (m : Int) + 1 := IntWalk.i64_in _ (by omega)
      obtain ⟨nr, hnr⟩ : ∃ nr, nr = r.length := ⟨_, rfl⟩
      rw [← hnr] at HOW hrl ⊢
      have NR := Lib.hid hnr
      clear hown hnr
      cases x6 with
      | true =>
        go_wp2_with (fail)
        go_roundg (n - (m + 1))
        case measure => have := HG.out; omega
        case rel =>
          refine ⟨m + 1, r, A6, c6, by omega, rfl, by rw [NR.out], by go_num, by rw [← NR.out]; exact HOW.out, by have := NR.out; omega, y2, Lib.hid (HI.out.congr fun k => ?_)⟩
          rw [HSN.out]; simp
      | false =>
        go_wp2_with (go_at_call 26; refine Hid.out ?_)
        refine Lib.hid ?_
        refine (groupS_any s l x1 _ (HS.out.ext y2) (by omega)).mono ?_
        rintro e w3 ⟨g, Ag, cg, rfl, hgp, hgl, hgo, y3⟩
        have HOW3 := Lib.hid (HOW.out.below y3 (Nat.le_refl _))
        have hdis : ∀ k, wb (.slice Ag g.length cg) = some k → wb (.slice A6 nr c6) ≠ some k := fun k hk he => by
          have h1 := (hgo.wb_lt k hk).1
          have h2 := (HOW.out.wb_lt k he).2
          omega
        have y4 := ext_trans y2 y3
        obtain ⟨ng, hng⟩ : ∃ ng, ng = g.length := ⟨_, rfl⟩
        rw [← hng] at hgo hdis hgl ⊢
        have NG := Lib.hid hng
        have GP := Lib.hid hgp
        have HGO := Lib.hid hgo
        have HDI := Lib.hid hdis
        clear hng hgp hgo hdis r0 r1 r2 r3 r4 r5
        go_wp2_with (fail)
        obtain ⟨lo, hlo⟩ : ∃ lo, lo = (wr.alloc (.cells #[.int .i64 x1, .bool false, .int .u8 x2, .int .i64 x3, .int .u64 x4, .string x5] 49)).heap.size := ⟨_, rfl⟩
        rw [← hlo] at HGO
        clear hlo
        go_loopg [6, 28] ng (fun gh ov iv wi => ∃ (j : Nat) (r : List Ch) (A6 : Option Addr) (c6 : Nat), j ≤ ng ∧ gh = ng - j ∧ ov = .slice A6 r.length c6 ∧ iv = .int .i64 (j : Int) ∧ OwCh wi w.heap.size (.slice A6 r.length c6) r ∧ r.length ≤ n + m * 64 + j ∧ Below w.heap.size w wi ∧
          OwInt wi lo (.slice Ag ng cg) g ∧ Hid (∀ k, wb (.slice Ag ng cg) = some k → wb (.slice A6 r.length c6) ≠ some k) ∧ Hid (ComplInv l p r (fun k => k ∈ othersOf l (p.take m) ∨ k ∈ g.take j)))
        case atStart => exact ⟨0, r, A6, c6, by omega, rfl, by rw [← NR.out], rfl, by rw [← NR.out]; exact HOW3.out, by have := NR.out; omega, y4, HGO.out, by rw [← NR.out]; exact HDI, Lib.hid (HI.out.congr fun k => by simp)⟩
        case round =>
          clear HI HOW HOW3 HGO HDI NR hrl y y2 y3 y4 yb
          obtain ⟨j, r, A6, c6, hj, hg2, rfl, rfl, hown, hrl, y, hgo, HDI, HI⟩ := hrel
          have HG2 := Lib.hid hg2
          clear hg2
          obtain ⟨nr, hnr⟩ : ∃ nr, nr = r.length := ⟨_, rfl⟩
          rw [← hnr] at hown hrl HDI ⊢
          have NR := Lib.hid hnr
          have HOW := Lib.hid hown
          have HGO := Lib.hid hgo
          clear hown hnr hgo
          by_cases hlj : j < ng
          · obtain ⟨ad2, o, hag, _, _, ho1, hoc⟩ := (HGO.out.rd encInt_len).el (i := j) (by have := NG.out; omega)
            subst hag
            have q0 : _ = some (Value.int .i64 o) := hoc 0 _ rfl
            rw [add_zero', Nat.mul_one] at q0
            have HMEM := Lib.hid (GP.out.mem_iff.1 (List.mem_of_getElem? ho1))
            have HTM := Lib.hid (take_mem ho1)
            have hw3 : IntKind.i64.wrap ((j:Int) + 1) = (j : Int) + 1 := IntWalk.i64_in _ (by omega)
            clear ho1 hoc
            go_wp2_with (go_at_call 27; refine Hid.out ?_)
            refine Lib.hid ?_
            refine (atC_any A6 nr c6 r o _ NR.out (HOW.out.rd Ch.enc_len) (by omega)).mono ?_
            rintro e w5 ⟨i, th, rfl, hf, y5⟩
            have HOW5 := Lib.hid (HOW.out.below y5 (Nat.le_refl _))
            have HGO5 := Lib.hid (HGO.out.below y5 (Nat.le_refl _))
            have yz := ext_trans y y5
            have hir : i ≤ nr := by have := hf.1; have := NR.out; omega
            have HF := Lib.hid hf
            clear hf q0
            cases th with
            | true =>
              obtain ⟨d, hd1, hd2⟩ := HF.out.2.1.1 rfl
              obtain ⟨ad3, d', ha3, _, _, hd3, hdc⟩ := (HOW5.out.rd Ch.enc_len).el (i := i) (List.getElem?_eq_some_iff.1 hd1).1
              have hil : i < nr := by have := (List.getElem?_eq_some_iff.1 hd1).1; have := NR.out; omega
              rw [hd1] at hd3; injection hd3 with hd3; subst hd3 ha3
              have HD1 := Lib.hid hd1
              obtain ⟨d1, d6, d2, d3, d4, d5⟩ := d
              obtain ⟨f0, f1, f2, f3, f4, f5⟩ := ch_cells hdc
              clear hd1 hd2 hdc
              cases d6 with
              | true =>
                go_wp2_with (fail)
                go_roundg (ng - (j + 1))
                case measure => have := HG2.out; omega
                case rel =>
                  refine ⟨j + 1, r, _, c6, by omega, rfl, by rw [← NR.out], by go_num, by rw [← NR.out]; exact HOW5.out, by have := NR.out; omega, yz, HGO5.out, by rw [← NR.out]; exact HDI, Lib.hid ((HI.out.there HF.out HD1.out rfl).congr fun k => ?_)⟩
                  rw [← HTM.out k, or_assoc]
              | false =>
                go_wp2_with (fail)
                refine bodyPost_ret (v := .tuple #[.slice none 0 0, .int .i64 3]) (by simp [results, Try.results10, go_sem]) rfl ?_
                exact ⟨[], 3, none, 0, rfl, fun hp => .inl ⟨HI.out.conf HF.out HD1.out rfl HX.out rfl HMEM.out hp, rfl, rfl⟩, by simp, Ow.nil _ _, yz⟩
            | false =>
              have hv := heap_alloc_new w5 (.cells #[.int .i64 o, .bool true, .int .u8 0, .int .i64 0, .int .u64 0, .string ⟨#[]⟩] 49)
              have HV := Lib.hid hv
              have ya := ext_alloc w5 (.cells #[.int .i64 o, .bool true, .int .u8 0, .int .i64 0, .int .u64 0, .string ⟨#[]⟩] 49)
              have HOW6 := Lib.hid (HOW5.out.below ya (Nat.le_refl _))
              have HGO6 := Lib.hid (HGO5.out.below ya (Nat.le_refl _))
              have yq := ext_trans yz ya
              have hsz : w.heap.size ≤ (w5.alloc (.cells #[.int .i64 o, .bool true, .int .u8 0, .int .i64 0, .int .u64 0, .string ⟨#[]⟩] 49)).heap.size := yq.size
              clear hv
              go_wp2_with (go_at_call 28; refine Hid.out ?_)
              refine Lib.hid ?_
              refine (insertC_any A6 nr c6 w.heap.size w5.heap.size i r o true 0 0 0 ⟨#[]⟩ _ HOW6.out NR.out (by omega) hsz HV.out hir (fun h => absurd (HOW5.out.wb_lt _ h).2 (Nat.lt_irrefl _))).mono ?_
              rintro e w7 ⟨A7, c7, rfl, ho7, hb7, hk7⟩
              have y7 := yq.trans hb7
              have hln : nr + 1 = (insC r i (goneK o)).length := by rw [insC_len _ _ _ (by have := NR.out; omega), ← NR.out]
              have HLN := Lib.hid hln
              have HO7 := Lib.hid ho7
              have HGO7 := Lib.hid (HGO6.out.kept hk7.1 HDI.out)
              have HDI7 : Hid (∀ k, wb (.slice (some ad2) ng cg) = some k → wb (.slice A7 (nr + 1) c7) ≠ some k) := Lib.hid (fun k hk he => by
                rcases hk7.2 k he with h1 | h1
                · exact HDI.out k hk h1
                · have := (HGO6.out.wb_lt k hk).2; omega)
              clear hln ho7 hk7
              go_wp2_with (fail)
              go_roundg (ng - (j + 1))
              case measure => have := HG2.out; omega
              case rel =>
                refine ⟨j + 1, insC r i (goneK o), A7, c7, by omega, rfl, by rw [← HLN.out], by go_num, by rw [← HLN.out]; exact HO7.out, by have := HLN.out; omega, y7, HGO7.out, by rw [← HLN.out]; exact HDI7, Lib.hid ((HI.out.new HF.out).congr fun k => ?_)⟩
                rw [← HTM.out k, or_assoc]
          · have hjn : j = ng := by omega
            have HJ := Lib.hid hjn
            clear hjn
            go_wp2_with (fail)
            go_roundg (n - (m + 1))
            case measure => have := HG.out; omega
            case rel =>
              refine ⟨m + 1, r, A6, c6, by omega, rfl, by rw [← NR.out], by go_num, by rw [← NR.out]; exact HOW.out, by have := NR.out; omega, y, Lib.hid (HI.out.congr fun k => ?_)⟩
              rw [HSN.out, HJ.out, NG.out, List.take_length, List.mem_append, GP.out.mem_iff]
              simp
    · have hmn : m = n := by omega
      have HMN := Lib.hid hmn
      have HOW := Lib.hid hown
      clear hown hmn
      go_wp2_with (fail)
      refine bodyPost_ret (v := .tuple #[.slice A6 r.length c6, .int .i64 0]) (by simp [results, Try.results10, go_sem]) rfl ?_
      refine ⟨r, 0, A6, c6, rfl, fun hp => .inr ?_, by have := N.out; omega, HOW.out, y⟩
      have e : p.take m = p := List.take_of_length_le (by have := N.out; have := HMN.out; omega)
      have h1 := HI.out
      rw [e] at h1
      obtain ⟨g1, g2⟩ := h1.done hp
      exact ⟨g1, rfl, g2⟩
end Go.Proofs.Ytfnkjcodcoehcaa
