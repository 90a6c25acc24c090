/- Merged texts. -/
import Derived.Test.YtnmedachaeanbaaGreatDoorA5
namespace Go.Proofs.YtnmedachaeanbaaGreatDoor
set_option maxRecDepth 100000
set_option maxHeartbeats 1600000
open Go.RowKit
open Go.Lib (hid Utf8Tabs)
set_option linter.unusedVariables false
set_option linter.unusedSimpArgs false
theorem Y31 (f : Int) (w : World) (hf0 : 0 ≤ f) (hf1 : f < 18446744073709551616) : Calls Tryz.prog 98 #[.int .u64 f] w fun e w' => e = .returned (.bool (nanF f)) ∧ w = w' := by
 cases hN : nanF f with
 | true =>
   have h := of_decide_eq_true hN
   have h' : decide (9218868437227405312 < f % 9223372036854775808) = true := hN
   clear hN
   go_enter Tryz.func98, Tryz.ntmps98
   go_wp2_with (fail)
   go_ret
   exact ⟨rfl, rfl⟩
 | false =>
   have h := of_decide_eq_false hN
   have h' : decide (9218868437227405312 < f % 9223372036854775808) = false := hN
   clear hN
   go_enter Tryz.func98, Tryz.ntmps98
   go_wp2_with (fail)
   go_ret
   exact ⟨rfl, rfl⟩
theorem Y6P (n f : Int) (s : ByteArray) : mayV ⟨1, n, f, s⟩ = (beqV ⟨1, n, f, s⟩ ⟨1, n, 0, ⟨#[]⟩⟩ && ((n == 0) || (n == 1))) := by
 show beqV ⟨1, n, f, s⟩ (Y5N (decide (n = 1))) = _
 unfold beqV Y5N
 by_cases h : n = 1
 ·subst h; simp
 ·by_cases h0 : n = 0
  ·subst h0; simp
  ·simp [h, h0]
theorem Y6Q (n f : Int) (s : ByteArray) : mayV ⟨3, n, f, s⟩ = (beqV ⟨3, n, f, s⟩ ⟨3, 0, f, ⟨#[]⟩⟩ && (!(nanF f) || (f == 9221120237041090560))) := by
 show beqV ⟨3, n, f, s⟩ (Z3O f) = _
 unfold beqV Z3O
 cases h : nanF f with
 | true =>
   by_cases h0 : f = 9221120237041090560
   ·rw [if_pos rfl, h0]; simp
   ·rw [if_pos rfl]; simp [h0]
 | false => simp
theorem Z5M (k n f : Int) (s : ByteArray) (w : World) (hf0 : 0 ≤ f) (hf1 : f < 18446744073709551616) (hs : s.size ≤ 100000000) (hT : Utf8Tabs 0 1 w) :
 Calls Tryz.prog 32 #[.agg #[.int .u8 k, .int .i64 n, .int .u64 f, .string s]] w (Z9Y ⟨k, n, f, s⟩ w) := by
 obtain ⟨R, hR⟩ : ∃ X, mayV ⟨k, n, f, s⟩ = X := ⟨_, rfl⟩
 unfold Z9Y
 rw [hR]
 have y1 : Below w.heap.size w (w.alloc (.cells #[.int .u8 k, .int .i64 n, .int .u64 f, .string s] 73)) := Z0c w _
 have HBX := hid (heap_alloc_new w (.cells #[.int .u8 k, .int .i64 n, .int .u64 f, .string s] 73))
 by_cases h1 : k = 1
 ·subst h1
  rw [Y6P] at hR
  obtain ⟨q, hq⟩ : ∃ X, beqV ⟨1, n, f, s⟩ ⟨1, n, 0, ⟨#[]⟩⟩ = X := ⟨_, rfl⟩
  rw [hq] at hR
  obtain ⟨z, hz⟩ : ∃ X, (n == 0) = X := ⟨_, rfl⟩
  obtain ⟨o, ho⟩ : ∃ X, (n == 1) = X := ⟨_, rfl⟩
  rw [hz, ho] at hR
  subst hR
  cases q <;> cases z <;> cases o
  all_goals
   go_enter Tryz.func32, Tryz.ntmps32
   go_wp2_with (fail)
   go_ret
   exact ⟨rfl, y1⟩
 ·by_cases h2 : k = 2
  ·subst h2
   rw [show mayV ⟨2, n, f, s⟩ = beqV ⟨2, n, f, s⟩ ⟨2, n, 0, ⟨#[]⟩⟩ from rfl] at hR
   have HR := hid hR
   clear hR h1
   go_enter Tryz.func32, Tryz.ntmps32
   go_wp2_with (fail)
   go_ret
   exact ⟨Z2e HR.out, y1⟩
  ·by_cases h3 : k = 3
   ·subst h3
    rw [Y6Q] at hR
    obtain ⟨q, hq⟩ : ∃ X, beqV ⟨3, n, f, s⟩ ⟨3, 0, f, ⟨#[]⟩⟩ = X := ⟨_, rfl⟩
    rw [hq] at hR
    obtain ⟨z, hz⟩ : ∃ X, nanF f = X := ⟨_, rfl⟩
    obtain ⟨o, ho⟩ : ∃ X, (f == 9221120237041090560) = X := ⟨_, rfl⟩
    rw [hz, ho] at hR
    subst hR
    have HZ := hid hz
    clear hz h1 h2
    cases q <;> cases z <;> cases o
    all_goals
     go_enter Tryz.func32, Tryz.ntmps32
     go_wp2_with (go_at_call 98; refine (Y31 f _ hf0 hf1).mono ?_; rintro e w1 ⟨rfl, rfl⟩; rw [HZ.out])
     go_ret
     exact ⟨rfl, y1⟩
   ·by_cases h4 : k = 4
    ·subst h4
     rw [show mayV ⟨4, n, f, s⟩ = (decide (s.size ≤ 64 ∧ Z2w s = true) && beqV ⟨4, n, f, s⟩ ⟨4, 0, 0, s⟩) from rfl] at hR
     have hcv := Z6O s
     go_enter Tryz.func32, Tryz.ntmps32
     go_wp2_with (go_at_call 99; refine Hid.out ?_)
     clear hcv
     refine hid ?_
     have hsz : (w.alloc (.cells #[.int .u8 4, .int .i64 n, .int .u64 f, .string s] 73)).heap.size = w.heap.size + 1 := by simp
     generalize w.alloc (.cells #[.int .u8 4, .int .i64 n, .int .u64 f, .string s] 73) = w1 at *
     have hbw := Z5L s w1
     have r2 := Z9X s w1
     rw [hsz] at r2
     have hcap := grownCap_ge w1 s.size 0 5
     generalize grownCap w1 s.size 0 5 = c at *
     have x2 := Z0a y1 hbw
     have hlt : w.heap.size < w1.heap.size := (Array.getElem?_eq_some_iff.1 HBX.out).1
     have HB2 := hid ((hbw.block w.heap.size hlt).trans HBX.out)
     have hlt2 : w.heap.size < (Lib.bytesWorld w1 5 s).heap.size := by rw [Lib.bytesWorld_size]; omega
     generalize Lib.bytesWorld w1 5 s = w2 at *
     refine (Z88 (some ⟨w.heap.size + 1, 0, none⟩) s.size c (strI s) w2 (Z9W s).symm hcap r2 (by omega) (Z5p _)).mono ?_
     rintro e w3 ⟨v, rfl, _, y3⟩
     obtain ⟨b0, b1, b2, b3⟩ := Z4B ((y3.block w.heap.size hlt2).trans HB2.out)
     have x3 := Z0a x2 y3
     obtain ⟨q, hq⟩ : ∃ X, beqV ⟨4, n, f, s⟩ ⟨4, 0, 0, s⟩ = X := ⟨_, rfl⟩
     rw [hq] at hR
     rw [show (Z2B (strI s)).isSome = Z2w s from rfl]
     clear hsz hbw r2 hcap x2 hlt hlt2 y3 y1 h1 h2 h3
     by_cases h64 : s.size ≤ 64
     ·have hz : (s.size : Int) ≤ 64 := by omega
      cases ht : Z2w s with
      | true =>
        rw [ht, decide_eq_true (⟨h64, rfl⟩ : s.size ≤ 64 ∧ true = true)] at hR
        simp only [Bool.true_and] at hR
        subst hR
        clear ht
        cases q
        all_goals
         go_wp2_with (fail)
         go_ret
         exact ⟨rfl, x3⟩
      | false =>
        rw [ht, decide_eq_false (fun h : s.size ≤ 64 ∧ false = true => by cases h.2)] at hR
        simp only [Bool.false_and] at hR
        subst hR
        clear ht
        cases q
        all_goals
         go_wp2_with (fail)
         go_ret
         exact ⟨rfl, x3⟩
     ·have hz : ¬ ((s.size : Int) ≤ 64) := by omega
      rw [decide_eq_false (fun h : s.size ≤ 64 ∧ Z2w s = true => h64 h.1)] at hR
      simp only [Bool.false_and] at hR
      subst hR
      generalize (if Z2w s = true then (0 : Int) else 3) = E
      cases q
      all_goals
       go_wp2_with (fail)
       go_ret
       exact ⟨rfl, x3⟩
    ·have e : mayV ⟨k, n, f, s⟩ = false := by unfold mayV; simp only; rw [if_neg h1, if_neg h2, if_neg h3, if_neg h4]
     rw [e] at hR
     subst hR
     clear e
     have z1 : (k == 1) = false := beq_eq_false_iff_ne.2 h1
     have z2 : (k == 2) = false := beq_eq_false_iff_ne.2 h2
     have z3 : (k == 3) = false := beq_eq_false_iff_ne.2 h3
     have z4 : (k == 4) = false := beq_eq_false_iff_ne.2 h4
     clear h1 h2 h3 h4
     go_enter Tryz.func32, Tryz.ntmps32
     go_wp2_with (fail)
     go_ret
     exact ⟨rfl, y1⟩
def okV (v : V) : Prop := 0 ≤ v.k ∧ v.k ≤ 255 ∧ -9223372036854775808 ≤ v.n ∧ v.n ≤ 9223372036854775807 ∧ 0 ≤ v.f ∧ v.f ≤ 18446744073709551615
theorem okV.f0 {v : V} (h : okV v) : 0 ≤ v.f := h.2.2.2.2.1
theorem okV.f1 {v : V} (h : okV v) : v.f < 18446744073709551616 := by have := h.2.2.2.2.2; omega
theorem Z5N {w v W : World} {a b : Nat} (hT : Utf8Tabs a b w) (h : Below w.heap.size w v) (e : W.heap = v.heap) : Utf8Tabs a b W := by
 have h2 := Utf8Tabs_below hT h
 have hc : ∀ p, W.cell? p = v.cell? p := fun p => by simp only [World.cell?, e]
 exact ⟨fun c hc' => by rw [hc]; exact h2.1 c hc', fun i hi => by rw [hc, hc]; exact h2.2 i hi⟩
theorem Z21 {w v W w' : World} (h : Below w.heap.size w v) (y : Below W.heap.size W w') (e1 : W.heap = v.heap) (e2 : W.os = v.os) (e3 : W.tape = v.tape) (e4 : W.output = v.output) : Below w.heap.size w w' := by
 have y1 : Below v.heap.size v w' := ⟨by rw [← e2]; exact y.os, by rw [← e3]; exact y.tape, by rw [← e4]; exact y.output, by rw [← e1]; exact y.size, fun k hk => by rw [← e1]; exact y.block k (by rw [e1]; exact hk)⟩
 exact Z0a h y1
theorem Y32 {v W w' : World} {b0 : Nat} {O0 : Obj} (h0 : v.heap[b0]? = some O0) (y : Below W.heap.size W w') (e : W.heap = v.heap) : w'.heap[b0]? = some O0 := by
 have hlt := (Array.getElem?_eq_some_iff.1 h0).1
 rw [y.block b0 (by rw [e]; exact hlt), e]
 exact h0
theorem kept2 {v W w' : World} {b0 b1 : Nat} {O0 O1 : Obj} (h0 : v.heap[b0]? = some O0) (h1 : v.heap[b1]? = some O1) (y : Below W.heap.size W w') (e : W.heap = v.heap) : w'.heap[b0]? = some O0 ∧ w'.heap[b1]? = some O1 := ⟨Y32 h0 y e, Y32 h1 y e⟩
def mayK (k : Ky) : Bool :=
 decide (1 ≤ k.id ∧ k.id ≤ 1000 ∧ 1 ≤ k.kind ∧ k.kind ≤ 4) && (if k.block = true then !k.before && decide (0 ≤ k.group ∧ k.group ≤ 8) else decide (k.group = 0))
theorem Y33 (i g n : Int) (b a f : Bool) (w : World) :
 Calls Tryz.prog 44 #[.agg #[.int .i64 i, .bool b, .int .u8 n, .bool a, .bool f, .int .i64 g]] w fun e w' => e = .returned (.bool (mayK ⟨i, b, n, a, f, g⟩)) ∧ Below w.heap.size w w' := by
 obtain ⟨R, hR⟩ : ∃ X, mayK ⟨i, b, n, a, f, g⟩ = X := ⟨_, rfl⟩
 rw [hR]
 unfold mayK at hR
 have HR := hid hR
 clear hR
 by_cases h1 : i < 1
 ·go_enter Tryz.func44, Tryz.ntmps44
  go_wp2_with (fail)
  go_ret
  exact ⟨Z0g (by rw [← HR.out]; simp; omega), Z0c w _⟩
 by_cases h2 : 1000 < i
 ·go_enter Tryz.func44, Tryz.ntmps44
  go_wp2_with (fail)
  go_ret
  exact ⟨Z0g (by rw [← HR.out]; simp; omega), Z0c w _⟩
 by_cases h3 : n < 1
 ·go_enter Tryz.func44, Tryz.ntmps44
  go_wp2_with (fail)
  go_ret
  exact ⟨Z0g (by rw [← HR.out]; simp; omega), Z0c w _⟩
 by_cases h4 : 4 < n
 ·go_enter Tryz.func44, Tryz.ntmps44
  go_wp2_with (fail)
  go_ret
  exact ⟨Z0g (by rw [← HR.out]; simp; omega), Z0c w _⟩
 have E4 := hid (show decide (1 ≤ i ∧ i ≤ 1000 ∧ 1 ≤ n ∧ n ≤ 4) = true by simp; omega)
 cases b with
 | false =>
   go_enter Tryz.func44, Tryz.ntmps44
   go_wp2_with (fail)
   go_ret
   exact ⟨Z0g (by have h := HR.out; rw [E4.out] at h; rw [← h]; simp; rfl), Z0c w _⟩
 | true =>
   cases f with
   | true =>
     go_enter Tryz.func44, Tryz.ntmps44
     go_wp2_with (fail)
     go_ret
     exact ⟨Z0g (by have h := HR.out; rw [E4.out] at h; rw [← h]; simp), Z0c w _⟩
   | false =>
     by_cases h5 : 0 ≤ g
     ·go_enter Tryz.func44, Tryz.ntmps44
      go_wp2_with (fail)
      go_ret
      exact ⟨Z0g (by have h := HR.out; rw [E4.out] at h; rw [← h]; simp [h5] <;> omega), Z0c w _⟩
     ·go_enter Tryz.func44, Tryz.ntmps44
      go_wp2_with (fail)
      go_ret
      exact ⟨Z0g (by have h := HR.out; rw [E4.out] at h; rw [← h]; simp [h5] <;> omega), Z0c w _⟩
def Sch (w : World) (s : Nat) (l : List Ky) : Prop :=
 ∃ bm A n c ls, w.heap[s]? = some (.cells #[.slice A n c, .map (some bm)] 93 (0, 0)) ∧ MapK w bm l ∧ n = ls.length ∧ ls.Perm l ∧ ls.Pairwise (fun a b => a.id ≤ b.id) ∧ RdKy w w.heap.size A ls
theorem Z0b {w : World} {b : Nat} {o : Obj} (h : w.heap[b]? = some o) : b < w.heap.size := (Array.getElem?_eq_some_iff.1 h).1
theorem MapK.ext {w w' : World} {b : Nat} {l : List Ky} (h : MapK w b l) (y : Below w.heap.size w w') : MapK w' b l := by
 obtain ⟨es, clock, he, hk⟩ := h
 exact ⟨es, clock, (y.block b (Z0b he)).trans he, hk⟩
theorem Sch.ext {w w' : World} {s : Nat} {l : List Ky} (h : Sch w s l) (y : Below w.heap.size w w') : Sch w' s l := by
 obtain ⟨bm, A, n, c, ls, hb, hm, hn, hp, hs, hr⟩ := h
 exact ⟨bm, A, n, c, ls, (y.block s (Z0b hb)).trans hb, hm.ext y, hn, hp, hs, hr.ext y⟩
theorem Sch.parts {w : World} {s : Nat} {l : List Ky} (h : Sch w s l) : ∃ bm sl, w.heap[s]? = some (.cells #[sl, .map (some bm)] 93 (0, 0)) ∧ MapK w bm l := by
 obtain ⟨bm, A, n, c, ls, hb, hm, _⟩ := h
 exact ⟨bm, _, hb, hm⟩
section
variable {ops : Array Oper} {rest : List Oper} {o : Oper} {a : Act} {Q : Exit → Act → World → Prop} {w : World}
theorem Z7q (hg : o.guard = none) (m x : Operand) (hop : o.op = Op.lookup 91 m x true) (b : Nat) (l : List Ky) (hm : a.eval m = .map (some b)) (hM : MapK w b l) (id : Int) (hx : a.eval x = .int .i64 id)
 (hK : ∀ i c n d f g q, (Z0N l id).getD Ky.zero = ⟨i, c, n, d, f, g⟩ → (Z0N l id).isSome = q → wpList Tryz.prog ops Q rest (a.put o.dst (.tuple #[.agg #[.int .i64 i, .bool c, .int .u8 n, .bool d, .bool f, .int .i64 g], .bool q])) w) : wpList Tryz.prog ops Q (o :: rest) a w := by
 refine wpList_plain hg fun K' hK' => ?_
 unfold Oper.wp
 simp [execOp, hop, hm, hx, hM.look id, Result.andThen]
 have h := hK ((Z0N l id).getD Ky.zero).id _ _ _ _ _ _ rfl rfl
 exact hK' _ _ h
end
def Z7r (l : List Ky) (id : Int) (w : World) (e : Ending) (w' : World) : Prop :=
 ∃ i c n d f g q, e = .returned (.tuple #[.agg #[.int .i64 i, .bool c, .int .u8 n, .bool d, .bool f, .int .i64 g], .bool q]) ∧ (Z0N l id).getD Ky.zero = ⟨i, c, n, d, f, g⟩ ∧ (Z0N l id).isSome = q ∧ Below w.heap.size w w'
theorem Z36 (s : Nat) (l : List Ky) (id : Int) (w : World) (h : Sch w s l) :
 Calls Tryz.prog 127 #[.pointer (some ⟨s, 0, none⟩), .int .i64 id] w (Z7r l id w) := by
 obtain ⟨bm, sl, hb, hm⟩ := h.parts
 have y := Z0c w (.cells #[.int .i64 0, .bool false, .int .u8 0, .bool false, .bool false, .int .i64 0] 78)
 have hb' := (y.block s (Z0b hb)).trans hb
 obtain ⟨es, clock, he, hk⟩ := hm
 have hm' : MapK (w.alloc (.cells #[.int .i64 0, .bool false, .int .u8 0, .bool false, .bool false, .int .i64 0] 78)) bm l := ⟨es, clock, (y.block bm (Z0b he)).trans he, hk⟩
 obtain ⟨c0, c1⟩ := Y0S hb'
 have HM := hid hm'
 clear hb hb' he hk hm'
 go_enter Tryz.func127, Tryz.ntmps127
 go_wp2_with (at_lookup; refine Z7q rfl _ _ rfl bm l rfl HM.out id rfl ?_; intro i c n d f g q hq1 hq2; have HQ1 := hid hq1; have HQ2 := hid hq2; clear hq1 hq2)
 refine bodyPost_ret (v := .tuple #[.agg #[.int .i64 i, .bool c, .int .u8 n, .bool d, .bool f, .int .i64 g], .bool q]) (by simp [results, Tryz.results127, go_sem]) rfl ?_
 exact ⟨i, c, n, d, f, g, q, rfl, HQ1.out, HQ2.out, by first | exact Z0a (Z0c w _) (Z0c _ _) | trace_state⟩
def Z2K (l : List Ky) (id : Int) (v : V) : Bool :=
 match Z0N l id with
 | none => false
 | some k => decide (k.kind = v.k) && mayV v
theorem Z37 (s : Nat) (l : List Ky) (id k n f : Int) (t : ByteArray) (w : World) (h : Sch w s l) (h0 : 0 ≤ f) (h1 : f < 18446744073709551616)
 (hT : Utf8Tabs 0 1 w) :
 Calls Tryz.prog 123 #[.pointer (some ⟨s, 0, none⟩), .int .i64 id, .agg #[.int .u8 k, .int .i64 n, .int .u64 f, .string t]] w fun e w' => e = .returned (.bool (Z2K l id ⟨k, n, f, t⟩)) ∧ Below w.heap.size w w' := by
 obtain ⟨R, hR⟩ : ∃ X, Z2K l id ⟨k, n, f, t⟩ = X := ⟨_, rfl⟩
 obtain ⟨m, hm⟩ : ∃ X, mayV ⟨k, n, f, t⟩ = X := ⟨_, rfl⟩
 rw [hR]
 unfold Z2K at hR
 rw [hm] at hR
 have HR := hid hR
 have HMV := hid hm
 have y0 := Z0c w (.cells #[.int .u8 k, .int .i64 n, .int .u64 f, .string t] 73)
 have hv0 := heap_alloc_new w (.cells #[.int .u8 k, .int .i64 n, .int .u64 f, .string t] 73)
 have hs0 := h.ext y0
 have hT0 := Utf8Tabs_below hT y0
 clear hR hm h
 go_enter Tryz.func123, Tryz.ntmps123
 go_wp2_with (go_at_call 127; refine Hid.out ?_)
 refine hid ?_
 have H0 := hid hv0
 clear hv0
 generalize hw0 : w.alloc _ = w0 at *
 clear hw0
 refine (Z36 s l id w0 hs0).mono ?_
 rintro e w1 ⟨i, c, kd, d, g, q, b, rfl, hk, hb, y1⟩
 have hv1 := (y1.block w.heap.size (Z0b H0.out)).trans H0.out
 have y1' := Z0a y0 y1
 have y2 := Z0c w1 (.cells #[.int .i64 i, .bool c, .int .u8 kd, .bool d, .bool g, .int .i64 q] 78)
 have hv2 := (y2.block w.heap.size (Z0b hv1)).trans hv1
 have hT2 := Utf8Tabs_below hT0 (Z0a y1 y2)
 have yy := Z0a y1' y2
 obtain ⟨a0, a1, a2, a3⟩ := Z4B hv2
 have HB := hid hb
 have HK := hid hk
 clear hv1 hv2 H0 hb hk hT hT0 hs0
 cases b with
 | false =>
   go_wp2_with (fail)
   go_ret
   refine ⟨Z0g ?_, yy⟩
   have h := HR.out
   have hb := HB.out
   cases hq : Z0N l id with
   | none => rw [hq] at h; exact h
   | some k => rw [hq] at hb; simp at hb
 | true =>
   obtain ⟨K, hK⟩ : ∃ K, Z0N l id = some K := Option.isSome_iff_exists.1 HB.out
   have hR := HR.out
   have hk := HK.out
   rw [hK] at hR hk
   simp only [Option.getD_some] at hk
   subst hk
   simp only at hR
   have HR := hid hR
   clear hR
   by_cases hkk : kd = k
   ·subst hkk
    go_wp2_with (go_at_call 122; refine Hid.out ?_)
    refine hid ?_
    refine (Z5q kd n f t _ h0 h1 hT2).mono ?_
    rintro e w3 ⟨rfl, y3⟩
    rw [HMV.out]
    go_wp2_with (fail)
    go_ret
    refine ⟨Z0g ?_, Z21 yy y3 rfl rfl rfl rfl⟩
    rw [← HR.out]; simp
   ·go_wp2_with (fail)
    go_ret
    refine ⟨Z0g ?_, yy⟩
    rw [← HR.out]; simp [hkk]
open Go.RowKit
set_option linter.unusedVariables false
set_option linter.unusedSimpArgs false
structure Opd where
 k : Int
 n : Int
 r : List Int
 s : List At
 p : List Ch
structure OpS where
 o : Opd
 Ar : Option Addr
 cr : Nat
 As : Option Addr
 cs : Nat
 Ap : Option Addr
 cp : Nat
def OpS.enc (x : OpS) : List Value := [.int .u8 x.o.k, .int .i64 x.o.n, .slice x.Ar x.o.r.length x.cr, .slice x.As x.o.s.length x.cs, .slice x.Ap x.o.p.length x.cp]
theorem OpS.enc_len (x : OpS) : x.enc.length = 5 := rfl
abbrev RdOs := @Rd OpS OpS.enc 5
def Sub (w : World) (B : Nat) (l : List OpS) : Prop := ∀ x ∈ l, Z3i w B x.Ar x.o.r ∧ RdAt w B x.As x.o.s ∧ RdCh w B x.Ap x.o.p
def RdOp (w : World) (B : Nat) (A : Option Addr) (l : List OpS) : Prop := RdOs w B A l ∧ Sub w B l
theorem Sub.ext {w w' : World} {l : List OpS} (h : Sub w w.heap.size l) (y : Below w.heap.size w w') : Sub w' w'.heap.size l := fun x hx => ⟨(h x hx).1.ext y, (h x hx).2.1.ext y, (h x hx).2.2.ext y⟩
theorem RdOp.ext {w w' : World} {A : Option Addr} {l : List OpS} (h : RdOp w w.heap.size A l) (y : Below w.heap.size w w') : RdOp w' w'.heap.size A l := ⟨h.1.ext y, h.2.ext y⟩
theorem Z0x {w : World} {p : Addr} {k n : Int} {r s q : Value} (h : CellsAt w p [.int .u8 k, .int .i64 n, r, s, q]) :
 w.cell? p = some (.int .u8 k) ∧ w.cell? { block := p.block, off := p.off + 1 } = some (.int .i64 n) ∧ w.cell? { block := p.block, off := p.off + 2 } = some r ∧ w.cell? { block := p.block, off := p.off + 3 } = some s ∧ w.cell? { block := p.block, off := p.off + 4 } = some q := by
 have h0 := h 0 _ rfl
 rw [Z0o] at h0
 exact ⟨h0, Z0r h 0 rfl, Z0r h 1 rfl, Z0r h 2 rfl, Z0r h 3 rfl⟩
def Z1d (o : Opd) : Int := if o.k = 2 then o.r.length else o.n
def Z22 (a : Int) (x : OpS) : Int := if x.o.k = 2 then a else IntKind.i64.wrap (a + x.o.n)
def Z23 (a : Int) (x : OpS) : Int := if x.o.k = 3 then a else IntKind.i64.wrap (a + Z1d x.o)
def Z1k (l : List OpS) : Int := l.foldl Z22 0
def Z1F (l : List OpS) : Int := l.foldl Z23 0
theorem Z5O (k n : Int) (Ar As Ap : Option Addr) (r s p cr cs cp : Nat) (w : World) :
 Calls Tryz.prog 160 #[.agg #[.int .u8 k, .int .i64 n, .slice Ar r cr, .slice As s cs, .slice Ap p cp]] w fun e w' => e = .returned (.int .i64 (if k = 2 then (r : Int) else n)) ∧ Below w.heap.size w w' := by
 by_cases hk : k = 2
 ·subst hk
  go_enter Tryz.func160, Tryz.ntmps160
  go_wp2_with (fail)
  go_ret
  exact ⟨by simp, Z0c w _⟩
 ·have hb : (k == 2) = false := beq_eq_false_iff_ne.2 hk
  have HK := hid hk
  clear hk
  go_enter Tryz.func160, Tryz.ntmps160
  go_wp2_with (fail)
  go_ret
  exact ⟨by first | rfl | simp [HK.out], Z0c w _⟩
theorem Z72 {f : Int → OpS → Int} {l : List OpS} {m : Nat} {x : OpS} {a R : Int} (hd : l.drop m = x :: l.drop (m + 1)) (h : (l.drop m).foldl f a = R) : (l.drop (m + 1)).foldl f (f a x) = R := by
 rw [hd] at h; exact h
theorem Z38 (A : Option Addr) (n c : Nat) (l : List OpS) (w : World) (hn : n = l.length) (h : RdOs w w.heap.size A l) (hb : n ≤ 140737488355328) :
 Calls Tryz.prog 81 #[.slice A n c] w fun e w' => e = .returned (.int .i64 (Z1k l)) ∧ Below w.heap.size w w' := by
 have N := hid hn
 generalize hR : Z1k l = R
 have HR := hid hR
 clear hn hR
 go_enter Tryz.func81, Tryz.ntmps81
 go_wp2_with (fail)
 go_loopg [3, 8] n (fun g av iv wr => ∃ (m : Nat) (a : Int), m ≤ n ∧ g = n - m ∧ av = .int .i64 a ∧ iv = .int .i64 (m : Int) ∧ Below w.heap.size w wr ∧ Hid ((l.drop m).foldl Z22 a = R))
 case atStart => exact ⟨0, 0, by omega, rfl, rfl, rfl, Below.refl _ _, hid (by rw [List.drop_zero]; exact HR.out)⟩
 case round =>
  obtain ⟨m, a, hm, hg, rfl, rfl, y, HI⟩ := hrel
  have HG := hid hg
  clear hg HR
  by_cases hlt : m < n
  ·have hl1 : m < l.length := by have := N.out; omega
   obtain ⟨ad, x, rfl, had, hd1, _, hc0⟩ := (h.below y (Nat.le_refl _)).el hl1
   have HI2 := hid (Z72 hd1 HI.out)
   obtain ⟨⟨k, nn, r, s, p⟩, Ar, cr, As, cs, Ap, cp⟩ := x
   obtain ⟨r0, r1, r2, r3, r4⟩ := Z0x hc0
   clear hc0 hd1 HI
   have y2 := Z0a y (Z0c wr (.cells #[.int .u8 k, .int .i64 nn, .slice Ar r.length cr, .slice As s.length cs, .slice Ap p.length cp] 36))
   have hw2 : IntKind.i64.wrap ((m:Int) + 1) = (m : Int) + 1 := IntWalk.i64_in _ (by omega)
   by_cases hk : k = 2
   ·subst hk
    go_wp2_with (fail)
    go_roundg (n - (m + 1))
    case measure => have := HG.out; omega
    case rel => exact ⟨m + 1, a, by omega, rfl, rfl, by go_num, y2, hid (by rw [← HI2.out]; simp [Z22])⟩
   ·have hb : (k == 2) = false := beq_eq_false_iff_ne.2 hk
    have HK := hid hk
    obtain ⟨W, hW⟩ : ∃ W, IntKind.i64.wrap (a + nn) = W := ⟨_, rfl⟩
    clear hk
    go_wp2_with (fail)
    go_roundg (n - (m + 1))
    case measure => have := HG.out; omega
    case rel => exact ⟨m + 1, W, by omega, rfl, by first | rfl | (rw [← hW]; rfl) | trace_state, by go_num, y2, hid (by rw [← HI2.out]; simp only [Z22]; rw [if_neg HK.out, hW])⟩
  ·go_wp2_with (fail)
   go_ret
   refine ⟨Z0t ?_, y⟩
   rw [← HI.out, List.drop_eq_nil_of_le (by have := N.out; omega)]
   rfl
theorem Z5P (A : Option Addr) (n c : Nat) (l : List OpS) (w : World) (hn : n = l.length) (h : RdOs w w.heap.size A l) (hb : n ≤ 140737488355328) :
 Calls Tryz.prog 82 #[.slice A n c] w fun e w' => e = .returned (.int .i64 (Z1F l)) ∧ Below w.heap.size w w' := by
 have N := hid hn
 generalize hR : Z1F l = R
 have HR := hid hR
 clear hn hR
 go_enter Tryz.func82, Tryz.ntmps82
 go_wp2_with (fail)
 go_loopg [3, 8] n (fun g av iv wr => ∃ (m : Nat) (a : Int), m ≤ n ∧ g = n - m ∧ av = .int .i64 a ∧ iv = .int .i64 (m : Int) ∧ Below w.heap.size w wr ∧ Hid ((l.drop m).foldl Z23 a = R))
 case atStart => exact ⟨0, 0, by omega, rfl, rfl, rfl, Below.refl _ _, hid (by rw [List.drop_zero]; exact HR.out)⟩
 case round =>
  obtain ⟨m, a, hm, hg, rfl, rfl, y, HI⟩ := hrel
  have HG := hid hg
  clear hg HR
  by_cases hlt : m < n
  ·have hl1 : m < l.length := by have := N.out; omega
   obtain ⟨ad, x, rfl, had, hd1, _, hc0⟩ := (h.below y (Nat.le_refl _)).el hl1
   have HI2 := hid (Z72 hd1 HI.out)
   obtain ⟨⟨k, nn, r, s, p⟩, Ar, cr, As, cs, Ap, cp⟩ := x
   obtain ⟨r0, r1, r2, r3, r4⟩ := Z0x hc0
   clear hc0 hd1 HI
   have y2 := Z0a y (Z0c wr (.cells #[.int .u8 k, .int .i64 nn, .slice Ar r.length cr, .slice As s.length cs, .slice Ap p.length cp] 36))
   have hw2 : IntKind.i64.wrap ((m:Int) + 1) = (m : Int) + 1 := IntWalk.i64_in _ (by omega)
   have hbx := heap_alloc_new wr (.cells #[.int .u8 k, .int .i64 nn, .slice Ar r.length cr, .slice As s.length cs, .slice Ap p.length cp] 36)
   by_cases hk : k = 3
   ·subst hk
    go_wp2_with (fail)
    go_roundg (n - (m + 1))
    case measure => have := HG.out; omega
    case rel => exact ⟨m + 1, a, by omega, rfl, rfl, by go_num, y2, hid (by rw [← HI2.out]; simp [Z23])⟩
   ·have hb : (k == 3) = false := beq_eq_false_iff_ne.2 hk
    have HK := hid hk
    clear hk
    go_wp2_with (go_at_call 160; refine Hid.out ?_)
    refine hid ?_
    refine (Z5O k nn Ar As Ap r.length s.length p.length cr cs cp _).mono ?_
    rintro e w3 ⟨rfl, y3⟩
    have y4 := Z0a y2 y3
    obtain ⟨Z, hZ⟩ : ∃ Z : Int, (if k = 2 then (r.length : Int) else nn) = Z := ⟨_, rfl⟩
    rw [hZ]
    have HZ : Hid (Z1d ⟨k, nn, r, s, p⟩ = Z) := hid hZ
    clear hZ
    obtain ⟨W, hW⟩ : ∃ W, IntKind.i64.wrap (a + Z) = W := ⟨_, rfl⟩
    go_wp2_with (fail)
    go_roundg (n - (m + 1))
    case measure => have := HG.out; omega
    case rel => exact ⟨m + 1, W, by omega, rfl, by first | rfl | (rw [← hW]; rfl), by go_num, y4, hid (by rw [← HI2.out]; simp only [Z23]; rw [if_neg HK.out, HZ.out, hW])⟩
  ·go_wp2_with (fail)
   go_ret
   refine ⟨Z0t ?_, y⟩
   rw [← HI.out, List.drop_eq_nil_of_le (by have := N.out; omega)]
   rfl
def Z0O (n : Int) (st : Bool × Int) (x : OpS) : Bool × Int :=
 if st.1 = false then st else
 if x.o.k = 2 then (decide (¬ st.2 = n), st.2) else
 if x.o.k = 3 ∧ IntKind.i64.wrap (st.2 + x.o.n) = n then (false, st.2) else (true, IntKind.i64.wrap (st.2 + x.o.n))
def Z3m (n : Int) (l : List OpS) : Bool := (l.foldl (Z0O n) (true, 0)).1
theorem Z2f (n : Int) (a : Int) : ∀ l : List OpS, (l.foldl (Z0O n) (false, a)) = (false, a)
 | [] => rfl
 | x :: l => by rw [List.foldl_cons]; unfold Z0O; simp only [if_true]; exact Z2f n a l
theorem Y34 {n : Int} {l : List OpS} {m : Nat} {x : OpS} {a : Int} {R : Bool} (hd : l.drop m = x :: l.drop (m + 1)) (h : ((l.drop m).foldl (Z0O n) (true, a)).1 = R) : ((l.drop (m + 1)).foldl (Z0O n) (Z0O n (true, a) x)).1 = R := by
 rw [hd] at h; exact h
theorem Y18 (A : Option Addr) (n c : Nat) (l : List OpS) (lim : Int) (w : World) (hn : n = l.length) (h : RdOs w w.heap.size A l) (hb : n ≤ 140737488355328) :
 Calls Tryz.prog 180 #[.slice A n c, .int .i64 lim] w fun e w' => e = .returned (.bool (Z3m lim l)) ∧ Below w.heap.size w w' := by
 have N := hid hn
 generalize hR : Z3m lim l = R
 have HR := hid hR
 clear hn hR
 go_enter Tryz.func180, Tryz.ntmps180
 go_wp2
 go_step3
 go_wp2
 go_step3
 go_wp2
 go_loopg [5, 10] n (fun g av iv wr => ∃ (m : Nat) (a : Int), m ≤ n ∧ g = n - m ∧ av = .int .i64 a ∧ iv = .int .i64 (m : Int) ∧ Below w.heap.size w wr ∧ Hid (((l.drop m).foldl (Z0O lim) (true, a)).1 = R))
 case atStart => exact ⟨0, 0, by omega, rfl, rfl, rfl, Below.refl _ _, hid (by rw [List.drop_zero]; exact HR.out)⟩
 case round =>
  obtain ⟨m, a, hm, hg, rfl, rfl, y, HI⟩ := hrel
  have HG := hid hg
  clear hg HR
  by_cases hlt : m < n
  ·have hl1 : m < l.length := by have := N.out; omega
   obtain ⟨ad, x, rfl, had, hd1, _, hc0⟩ := (h.below y (Nat.le_refl _)).el hl1
   have HI2 := hid (Y34 hd1 HI.out)
   obtain ⟨⟨k, nn, r, s, p⟩, Ar, cr, As, cs, Ap, cp⟩ := x
   obtain ⟨r0, r1, r2, r3, r4⟩ := Z0x hc0
   clear hc0 hd1 HI
   have y2 := Z0a y (Z0c wr (.cells #[.int .u8 k, .int .i64 nn, .slice Ar r.length cr, .slice As s.length cs, .slice Ap p.length cp] 36))
   have hw2 : IntKind.i64.wrap ((m:Int) + 1) = (m : Int) + 1 := IntWalk.i64_in _ (by omega)
   obtain ⟨W, hW⟩ : ∃ W, IntKind.i64.wrap (a + nn) = W := ⟨_, rfl⟩
   have HW := hid hW
   by_cases hk : k = 2
   ·subst hk
    by_cases ha : a = lim
    ·subst ha
     go_wp2_with (fail)
     go_ret
     refine ⟨Z0g ?_, y2⟩
     rw [← HI2.out]
     simp [Z0O, Z2f]
    ·have hb2 : (a == lim) = false := beq_eq_false_iff_ne.2 ha
     have HA := hid ha
     clear ha
     go_wp2_with (fail)
     go_roundg (n - (m + 1))
     case measure => have := HG.out; omega
     case rel => exact ⟨m + 1, a, by omega, rfl, rfl, by go_num, y2, hid (by rw [← HI2.out]; simp [Z0O, HA.out])⟩
   ·have hb : (k == 2) = false := beq_eq_false_iff_ne.2 hk
    have HK := hid hk
    clear hk
    by_cases hk3 : k = 3
    ·subst hk3
     by_cases ha : W = lim
     ·subst ha
      go_wp2_with (fail)
      go_ret
      refine ⟨Z0g ?_, y2⟩
      rw [← HI2.out]
      simp [Z0O, Z2f, HW.out]
     ·have hb2 : (W == lim) = false := beq_eq_false_iff_ne.2 ha
      have HA := hid ha
      clear ha
      go_wp2_with (fail)
      go_roundg (n - (m + 1))
      case measure => have := HG.out; omega
      case rel => exact ⟨m + 1, W, by omega, rfl, by first | rfl | (rw [← HW.out]; rfl), by go_num, y2, hid (by rw [← HI2.out]; simp [Z0O, HW.out, HA.out])⟩
    ·have hb3 : (k == 3) = false := beq_eq_false_iff_ne.2 hk3
     have HK3 := hid hk3
     clear hk3
     go_wp2_with (fail)
     go_roundg (n - (m + 1))
     case measure => have := HG.out; omega
     case rel => exact ⟨m + 1, W, by omega, rfl, by first | rfl | (rw [← HW.out]; rfl), by go_num, y2, hid (by rw [← HI2.out]; simp [Z0O, HW.out, HK.out, HK3.out])⟩
  ·go_wp2_with (fail)
   unfold Exit.noGoto
   go_ret
   refine ⟨Z0g ?_, y⟩
   rw [← HI.out, List.drop_eq_nil_of_le (by have := N.out; omega)]
   rfl
instance : DecidableEq Opd := fun a b =>
 if h : a.k = b.k ∧ a.n = b.n ∧ a.r = b.r ∧ a.s = b.s ∧ a.p = b.p then isTrue (by cases a; cases b; simp only at h; obtain ⟨rfl, rfl, rfl, rfl, rfl⟩ := h; rfl)
 else isFalse (fun e => h (by subst e; exact ⟨rfl, rfl, rfl, rfl, rfl⟩))
inductive Un where
 | ins (r : Int) (s : List At)
 | del
 | ret (p : List Ch)
deriving DecidableEq
def opI (r : List Int) (s : List At) : Opd := ⟨2, 0, r, s, []⟩
def opD (n : Int) : Opd := ⟨3, n, [], [], []⟩
def opR (n : Int) (p : List Ch) : Opd := ⟨1, n, [], [], p⟩
def op1 : Un → Opd
 | .ins r s => opI [r] s
 | .del => opD 1
 | .ret p => opR 1 p
def Z0n (a b : Opd) : Bool :=
 (decide (a.k = 2) && decide (b.k = 2) && decide (a.s = b.s)) || (decide (a.k = 3) && decide (b.k = 3)) || (decide (a.k = 1) && decide (b.k = 1) && decide (a.p = b.p))
def into (u : Un) (b : Opd) : Opd :=
 match u with
 | .ins r s => { b with r := r :: b.r }
 | _ => { b with n := b.n + 1 }
def Z3n (u : Un) : List Opd → List Opd
 | [] => [op1 u]
 | b :: t => if Z0n (op1 u) b = true then into u b :: t else op1 u :: b :: t
def enc : List Un → List Opd
 | [] => []
 | u :: us => Z3n u (enc us)
def Z0h (o : Opd) : List Un :=
 if o.k = 2 then o.r.map (fun r => Un.ins r o.s) else if o.k = 1 then List.replicate o.n.toNat (.ret o.p) else List.replicate o.n.toNat .del
def Z0e (x : List Opd) : List Un := x.flatMap Z0h
theorem Z5Q : Z0e [] = [] := rfl
theorem Z1j (o : Opd) (x : List Opd) : Z0e (o :: x) = Z0h o ++ Z0e x := rfl
theorem Z0J (x y : List Opd) : Z0e (x ++ y) = Z0e x ++ Z0e y := by simp [Z0e]
def isOp (o : Opd) : Prop :=
 (o.k = 2 ∧ o.n = 0 ∧ o.r ≠ [] ∧ o.p = []) ∨ (o.k = 3 ∧ 1 ≤ o.n ∧ o.r = [] ∧ o.s = [] ∧ o.p = []) ∨ (o.k = 1 ∧ 1 ≤ o.n ∧ o.r = [] ∧ o.s = [])
def Z1t : List Opd → Prop
 | [] => True
 | a :: x => isOp a ∧ (match x with | [] => True | b :: _ => Z0n a b = false) ∧ Z1t x
theorem Z5R {u : Un} {x : List Opd} (h : ∀ b t, x = b :: t → Z0n (op1 u) b = false) : Z3n u x = op1 u :: x := by
 cases x with
 | nil => rfl
 | cons b t => rw [Z3n, if_neg (by rw [h b t rfl]; simp)]
theorem Z7s {r : Int} {rs : List Int} {s : List At} {t : List Opd} : Z3n (.ins r s) (opI rs s :: t) = opI (r :: rs) s :: t := by
 rw [Z3n, if_pos (by simp [Z0n, op1, opI])]; rfl
theorem Z7t {n : Int} {t : List Opd} : Z3n .del (opD n :: t) = opD (n + 1) :: t := by
 rw [Z3n, if_pos (by simp [Z0n, op1, opD])]; rfl
theorem Z7u {n : Int} {p : List Ch} {t : List Opd} : Z3n (.ret p) (opR n p :: t) = opR (n + 1) p :: t := by
 rw [Z3n, if_pos (by simp [Z0n, op1, opR])]; rfl
theorem Z18 {o : Opd} (h : isOp o) (hk : o.k = 2) : o = opI o.r o.s ∧ o.r ≠ [] := by
 obtain ⟨k, n, r, s, p⟩ := o
 simp only at hk
 subst hk
 rcases h with ⟨_, h2, h3, h4⟩ | ⟨h1, _⟩ | ⟨h1, _⟩
 ·simp only at h2 h3 h4; subst h2 h4; exact ⟨rfl, h3⟩
 ·cases h1
 ·cases h1
theorem Z2L {o : Opd} (h : isOp o) (hk : o.k = 3) : o = opD o.n ∧ 1 ≤ o.n := by
 obtain ⟨k, n, r, s, p⟩ := o
 simp only at hk
 subst hk
 rcases h with ⟨h1, _⟩ | ⟨_, h2, h3, h4, h5⟩ | ⟨h1, _⟩
 ·cases h1
 ·simp only at h2 h3 h4 h5; subst h3 h4 h5; exact ⟨rfl, h2⟩
 ·cases h1
theorem Z2g {o : Opd} (h : isOp o) (hk : o.k = 1) : o = opR o.n o.p ∧ 1 ≤ o.n := by
 obtain ⟨k, n, r, s, p⟩ := o
 simp only at hk
 subst hk
 rcases h with ⟨h1, _⟩ | ⟨h1, _⟩ | ⟨_, h2, h3, h4⟩
 ·cases h1
 ·cases h1
 ·simp only at h2 h3 h4; subst h3 h4; exact ⟨rfl, h2⟩
theorem Z0q {o : Opd} (h : isOp o) : o.k = 2 ∨ o.k = 3 ∨ o.k = 1 := by
 rcases h with h | h | h
 ·exact .inl h.1
 ·exact .inr (.inl h.1)
 ·exact .inr (.inr h.1)
theorem Y6R {o : Opd} {us : List Un} (ho : isOp o) (hx : Z1t (enc us)) (h : ∀ b t, enc us = b :: t → Z0n o b = false) : enc (Z0h o ++ us) = o :: enc us := by
 rcases Z0q ho with hk | hk | hk
 ·obtain ⟨e, hr⟩ := Z18 ho hk
  obtain ⟨k, n, r, s, p⟩ := o
  simp only at e hr hk
  rw [e] at h ⊢
  clear e ho hk
  have hu : Z0h (opI r s) = r.map (fun r => Un.ins r s) := rfl
  rw [hu]
  induction r with
  | nil => exact absurd rfl hr
  | cons a r ih =>
    cases r with
    | nil =>
      show Z3n (.ins a s) (enc us) = _
      exact Z5R (u := .ins a s) (fun b t hb => h b t hb)
    | cons b r =>
      have ih' := ih (fun c t hc => h c t hc) (by simp) rfl
      show Z3n (.ins a s) (enc (((b :: r).map (fun r => Un.ins r s)) ++ us)) = _
      rw [ih', Z7s]
 ·obtain ⟨e, hn⟩ := Z2L ho hk
  obtain ⟨k, n, r, s, p⟩ := o
  simp only at e hn hk
  rw [e] at h ⊢
  clear e ho hk
  have hu : Z0h (opD n) = List.replicate n.toNat .del := rfl
  rw [hu]
  obtain ⟨m, rfl⟩ : ∃ m : Nat, n = (m : Int) + 1 := ⟨(n - 1).toNat, by omega⟩
  have hm : ((m : Int) + 1).toNat = m + 1 := by omega
  rw [hm]
  clear hn hu hm
  induction m with
  | zero => exact Z5R (u := .del) (fun b t hb => h b t hb)
  | succ m ih =>
    show Z3n .del (enc (List.replicate (m + 1) .del ++ us)) = _
    rw [ih (fun b t hb => h b t hb), Z7t]
    congr 2
    all_goals omega
 ·obtain ⟨e, hn⟩ := Z2g ho hk
  obtain ⟨k, n, r, s, p⟩ := o
  simp only at e hn hk
  rw [e] at h ⊢
  clear e ho hk
  have hu : Z0h (opR n p) = List.replicate n.toNat (.ret p) := rfl
  rw [hu]
  obtain ⟨m, rfl⟩ : ∃ m : Nat, n = (m : Int) + 1 := ⟨(n - 1).toNat, by omega⟩
  have hm : ((m : Int) + 1).toNat = m + 1 := by omega
  rw [hm]
  clear hn hu hm
  induction m with
  | zero => exact Z5R (u := .ret p) (fun b t hb => h b t hb)
  | succ m ih =>
    show Z3n (.ret p) (enc (List.replicate (m + 1) (.ret p) ++ us)) = _
    rw [ih (fun b t hb => h b t hb), Z7u]
    congr 2
    all_goals omega
theorem Z73 {x : List Opd} (h : Z1t x) : enc (Z0e x) = x := by
 induction x with
 | nil => rfl
 | cons a x ih =>
   obtain ⟨h1, h2, h3⟩ := h
   have e := ih h3
   rw [Z1j, Y6R h1 (by rw [e]; exact h3) (fun b t hb => by rw [e] at hb; subst hb; exact h2), e]
theorem Y19 {x y : List Opd} (hx : Z1t x) (hy : Z1t y) (h : Z0e x = Z0e y) : x = y := by rw [← Z73 hx, h, Z73 hy]
end Go.Proofs.YtnmedachaeanbaaGreatDoor
