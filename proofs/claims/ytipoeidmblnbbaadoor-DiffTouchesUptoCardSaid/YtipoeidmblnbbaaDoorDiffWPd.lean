/- The walks of diff.begin and diff.end. -/
import Derived.Test.YtipoeidmblnbbaaDoorPk21
import Derived.Test.YtipoeidmblnbbaaDoorPk17
import Derived.Test.YtipoeidmblnbbaaDoorPk16
namespace Go.Proofs.YtipoeidmblnbbaaDoor
open Go.RowKit
set_option linter.unusedVariables false
set_option linter.unusedSimpArgs false

set_option maxRecDepth 100000 in
set_option maxHeartbeats 400000 in
theorem begin_any (A B : Option Addr) (n m c c' : Nat) (d e : List ClS) (w : World) (hn : n = d.length) (hm : m = e.length) (h1 : RdCl w w.heap.size A d) (h2 : RdCl w w.heap.size B e) (k1 : n ≤ c) (k2 : m ≤ c') (b1 : n ≤ 1000000) (b2 : m ≤ 1000000) (p1 : 1 ≤ n) (p2 : 1 ≤ m)
    (hs1 : ∀ x ∈ d, x.c.s.length ≤ 140737488355328) (hs2 : ∀ x ∈ e, x.c.s.length ≤ 140737488355328) :
    Calls Tryd.prog 50 #[.slice A n c, .slice B m c'] w fun x w' => x = .returned (.int .i64 (begD (clsOf d) (clsOf e))) ∧ Below w.heap.size w w' := by
  have N := Lib.hid hn
  have M := Lib.hid hm
  have H1 := Lib.hid h1
  have H2 := Lib.hid h2
  have S1 := Lib.hid hs1
  have S2 := Lib.hid hs2
  obtain ⟨K, hK⟩ : ∃ K, min n m = K := ⟨_, rfl⟩
  have HK := Lib.hid hK
  have ek : min (n : Int) (m : Int) = (K : Int) := by omega
  generalize hR : begD (clsOf d) (clsOf e) = R
  have HR := Lib.hid hR
  clear hn hm h1 h2 hs1 hs2 hR hK
  go_enter Tryd.func50, Tryd.ntmps50
  go_wp2_with (fail)
  go_loopg [5] K (fun g iv wr => ∃ i : Nat, i ≤ K - 1 ∧ g = K - i ∧ iv = .int .i64 (i : Int) ∧ Below w.heap.size w wr ∧ Hid ((clsOf d).take i = (clsOf e).take i))
  case atStart => exact ⟨0, by omega, rfl, rfl, Below.refl _ _, Lib.hid rfl⟩
  case round =>
    obtain ⟨i, hi, hg, rfl, y, HI⟩ := hrel
    have HG := Lib.hid hg
    clear hg
    by_cases hlt : i < K - 1
    · have hl1 : i < d.length := by have := N.out; have := HK.out; omega
      have hl2 : i < e.length := by have := M.out; have := HK.out; omega
      obtain ⟨x, hx⟩ : ∃ x, d[i]? = some x := ⟨d[i], by rw [List.getElem?_eq_getElem hl1]⟩
      obtain ⟨z, hz⟩ : ∃ x, e[i]? = some x := ⟨e[i], by rw [List.getElem?_eq_getElem hl2]⟩
      have hdx : (d.drop i).take 1 = [x] := by rw [List.drop_eq_getElem_cons hl1]; rw [List.getElem?_eq_getElem hl1] at hx; injection hx with hx; rw [hx]; rfl
      have hez : (e.drop i).take 1 = [z] := by rw [List.drop_eq_getElem_cons hl2]; rw [List.getElem?_eq_getElem hl2] at hz; injection hz with hz; rw [hz]; rfl
      obtain ⟨A8, hA8⟩ : ∃ X, advS A c i 2 = X := ⟨_, rfl⟩
      obtain ⟨B8, hB8⟩ : ∃ X, advS B c' i 2 = X := ⟨_, rfl⟩
      obtain ⟨c8, hc8⟩ : ∃ X, c - i = X := ⟨_, rfl⟩
      obtain ⟨c9, hc9⟩ : ∃ X, c' - i = X := ⟨_, rfl⟩
      have sl1 : ∀ W, (Instr.slice 23 (.slice A n c) (some (.int .i64 (i : Int))) (some (.int .i64 ((i : Int) + 1))) none).run Tryd.prog W = .ok (.slice A8 1 c8) W := sl_one hA8 hc8 (by have := HK.out; omega)
      have sl2 : ∀ W, (Instr.slice 23 (.slice B m c') (some (.int .i64 (i : Int))) (some (.int .i64 ((i : Int) + 1))) none).run Tryd.prog W = .ok (.slice B8 1 c9) W := sl_one hB8 hc9 (by have := HK.out; omega)
      have R8 : Hid (∀ v, Below w.heap.size w v → RdCl v v.heap.size A8 [x]) := Lib.hid (fun v hv => by
        have := ((H1.out.ext hv).from hA8 (by have := N.out; omega) (by have := N.out; omega)).take 1
        rwa [hdx] at this)
      have R9 : Hid (∀ v, Below w.heap.size w v → RdCl v v.heap.size B8 [z]) := Lib.hid (fun v hv => by
        have := ((H2.out.ext hv).from hB8 (by have := M.out; omega) (by have := M.out; omega)).take 1
        rwa [hez] at this)
      have SX := Lib.hid (S1.out x (List.mem_of_getElem? hx))
      have SZ := Lib.hid (S2.out z (List.mem_of_getElem? hz))
      have CX := Lib.hid (clsOf_at hx)
      have CZ := Lib.hid (clsOf_at hz)
      have e0 : (i : Int) < (K : Int) - 1 := by omega
      have e1 : (i : Int) ≤ 1000000 := by omega
      have e2 : (K : Int) ≤ 1000000 := by have := HK.out; omega
      have hw1 := Lib.hid (IntWalk.i64_in ((K : Int) - 1) (by omega))
      have hw0 := Lib.hid (w64_in ((i : Int) + 1) (by omega))
      have hw2 := Lib.hid (IntWalk.i64_in ((i : Int) + 1) (by omega))
      have hw3 := Lib.hid (w64_in ((K : Int) - 1) (by omega))
      have Y := Lib.hid y
      clear hx hz hdx hez hA8 hB8 hc8 hc9 hl1 hl2 y
      generalize hs : decide (clsOf [x] = clsOf [z]) = S
      have HS := Lib.hid hs
      clear hs
      replace hw0 := hw0.out
      replace hw1 := hw1.out
      replace hw2 := hw2.out
      replace hw3 := hw3.out
      go_wp2_with (fail)
      go_region_held3 (fun w' => True) (go_keep) (first
       | (go_at_call 11
          with_reducible refine (cellsSame_any A8 B8 1 1 c8 c9 [x] [z] wr.drew rfl rfl (R8.out _ (up_drew Y.out)) (R9.out _ (up_drew Y.out)) (by omega) (by omega) (fun q hq => by simp at hq; subst hq; exact SX.out) (fun q hq => by simp at hq; subst hq; exact SZ.out)).mono ?_
          rw [HS.out]
          rintro r w2 ⟨rfl, y2⟩))
      have Y3 := ext_trans Y.out (ext_trans (ext_drew wr 1) y2)
      cases S with
      | true =>
        have hxz : x.c = z.c := by have := of_decide_eq_true HS.out; simpa [clsOf] using this
        have HI2 : Hid ((clsOf d).take (i + 1) = (clsOf e).take (i + 1)) := Lib.hid (by rw [List.take_add_one, List.take_add_one, HI.out, CX.out, CZ.out, hxz])
        clear hw0 hw1 hw3
        go_wp2_with (fail)
        go_roundg (K - (i + 1))
        case measure => have := HG.out; clear hw2; omega
        case rel => exact ⟨i + 1, by clear hw2; omega, rfl, by go_num, Y3, HI2⟩
      | false =>
        have hxz : x.c ≠ z.c := by have := of_decide_eq_false HS.out; simpa [clsOf] using this
        have hR : R = i := by
          rw [← HR.out]
          unfold begD
          have hd : (clsOf d).drop i = x.c :: (clsOf d).drop (i + 1) := by
            obtain ⟨hl, hv⟩ := List.getElem?_eq_some_iff.1 CX.out
            rw [List.drop_eq_getElem_cons hl, hv]
          have he : (clsOf e).drop i = z.c :: (clsOf e).drop (i + 1) := by
            obtain ⟨hl, hv⟩ := List.getElem?_eq_some_iff.1 CZ.out
            rw [List.drop_eq_getElem_cons hl, hv]
          have hk := cpl_at i (clsOf d) (clsOf e) (by rw [clsOf_len]; have := N.out; have := HK.out; clear hw0 hw1 hw2 hw3; omega) (by rw [clsOf_len]; have := M.out; have := HK.out; clear hw0 hw1 hw2 hw3; omega) HI.out
          rw [hd, he, cpl_cons_ne hxz] at hk
          rw [hk, clsOf_len, clsOf_len, ← N.out, ← M.out, HK.out]
          clear hw0 hw1 hw2 hw3
          omega
        have HRI := Lib.hid hR
        clear hw0 hw1 hw2 hw3 hR
        go_wp2_with (fail)
        go_ret
        exact ⟨ret_int (by rw [HRI.out]), Y3⟩
    · have e0 : (K : Int) - 1 ≤ (i : Int) := by omega
      have e1 : decide ((i : Int) < (K : Int) - 1) = false := decide_eq_false (by omega)
      have hR : R = i := by
        rw [← HR.out]
        unfold begD
        have hk := cpl_at i (clsOf d) (clsOf e) (by rw [clsOf_len]; have := N.out; have := HK.out; omega) (by rw [clsOf_len]; have := M.out; have := HK.out; omega) HI.out
        rw [hk, clsOf_len, clsOf_len, ← N.out, ← M.out, HK.out]
        omega
      have HRI := Lib.hid hR
      clear hR
      have hw1 : IntKind.i64.wrap ((K:Int) - 1) = (K : Int) - 1 := IntWalk.i64_in _ (by have := HK.out; omega)
      have hw3 := w64_in ((K:Int) - 1) (by have := HK.out; clear hw1; omega)
      go_wp2_with (fail)
      go_quiet (fail)
      clear hw1 hw3
      go_wp2_with (fail)
      go_ret
      exact ⟨ret_int (by rw [HRI.out]), ext_trans y (ext_drew _ _)⟩
end Go.Proofs.YtipoeidmblnbbaaDoor
