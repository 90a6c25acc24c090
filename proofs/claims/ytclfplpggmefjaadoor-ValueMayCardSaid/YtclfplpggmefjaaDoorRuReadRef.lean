/- The walk of rubricref01.Read. -/
import Derived.Test.YtclfplpggmefjaaDoorRuRead0
namespace Go.Proofs.YtclfplpggmefjaaDoor
open Go.RowKit
set_option linter.unusedVariables false
set_option linter.unusedSimpArgs false

theorem Tryd.elU8' : Tryd.prog.elem 84 = 5 := by kernel_rfl

/-- what reading bytes answers -/
def ReadOut (o : Option (List Int)) (w : World) (e : Ending) (w' : World) : Prop :=
  ∃ v, e = .returned (.tuple #[v, .int .i64 (if o.isSome = true then 0 else 3)]) ∧ OwI32 w' w.heap.size v (o.getD []) ∧ Below w.heap.size w w'

set_option maxHeartbeats 800000 in
theorem refRead_any (A : Option Addr) (n c : Nat) (b : List Int) (w : World) (hn : n = b.length) (hc : n ≤ c) (h : RdU8 w w.heap.size A b) (hb : n ≤ 100000000) (hu : ∀ x ∈ b, 0 ≤ x ∧ x ≤ 255) :
    Calls Tryd.prog 50 #[.slice A n c] w (ReadOut (readR b) w) := by
  have N := Lib.hid hn
  generalize hO : readR b = o
  have HO := Lib.hid hO
  clear hn hO
  go_enter Tryd.func50, Tryd.ntmps50
  go_wp2_with (fail)
  go_loopg [4, 5] n (fun g lv iv wr => ∃ (i : Nat) (w1 : World) (l : List Int) (v : Value), i ≤ n ∧ g = n - i ∧ iv = .int .i64 (i : Int) ∧ w1 = wr ∧ v = lv ∧ Hid ((readR (b.drop i)).map (l ++ ·) = o) ∧ OwI32 w1 w.heap.size v l ∧ Below w.heap.size w w1 ∧ l.length ≤ i)
  case atStart => exact ⟨0, w, [], _, by omega, rfl, rfl, rfl, rfl, Lib.hid (by rw [List.drop_zero, HO.out]; cases o <;> rfl), Ow.nil _ _, Below.refl _ _, by simp⟩
  case round =>
    obtain ⟨i, w1, l, v, hi, hg, rfl, rfl, rfl, HR, hown, hx, hli⟩ := hrel
    have HG := Lib.hid hg
    clear hg
    by_cases hlt : i < n
    · obtain ⟨A2, hA2⟩ : ∃ X, advS A c i 1 = X := ⟨_, rfl⟩
      obtain ⟨n2, hn2⟩ : ∃ X, n - i = X := ⟨_, rfl⟩
      obtain ⟨c2, hc2⟩ : ∃ X, c - i = X := ⟨_, rfl⟩
      have sl : ∀ W, (Instr.slice 84 (.slice A n c) (some (.int .i64 (i : Int))) none none).run Tryd.prog W = .ok (.slice A2 n2 c2) W := sl_from Tryd.slU8 Tryd.elU8' size_u8 rfl hA2 hn2 hc2 (by omega) hc
      have r2 : RdU8 w1 w1.heap.size A2 (b.drop i) := by
        have := (h.advS (k := i) (c := c) (by have := N.out; omega) (by have := N.out; omega)).ext hx
        rw [hA2] at this; exact this
      have hl2 : n2 = (b.drop i).length := by rw [List.length_drop, ← N.out]; exact hn2.symm
      have hu2 : ∀ x ∈ b.drop i, 0 ≤ x ∧ x ≤ 255 := fun x hx => hu x (List.mem_of_mem_drop hx)
      have hp2 : 0 < n2 := by omega
      have hp3 : n2 ≤ 100000000 := by omega
      have hne : b.drop i ≠ [] := fun e => by rw [e] at hl2; simp at hl2; omega
      have HR2 : Hid ((if (nextR (b.drop i)).2 = 0 then none else (readR (b.drop (i + (nextR (b.drop i)).2))).map ((nextR (b.drop i)).1 :: ·)).map (l ++ ·) = o) := Lib.hid (by
        have t := HR.out
        rw [readR_step hne, List.drop_drop] at t
        exact t)
      have HN : Hid ((nextR (b.drop i)).2 ≠ 0 → (nextR (b.drop i)).2 ≤ n2) := Lib.hid (fun hz => by
        have t := (next_inv hu2 (r := (nextR (b.drop i)).1) (n := (nextR (b.drop i)).2) rfl hz)
        have t2 := congrArg List.length t.2.2
        rw [List.length_append, ← t.2.1] at t2
        rw [← hl2] at t2
        omega)
      have HL2 := Lib.hid hl2
      have HU := Lib.hid hu2
      have g1 : n2 + i ≤ n := by omega
      have g2 : n ≤ n2 + i := by omega
      clear hA2 hn2 hc2 hl2 hu2 hne HR
      go_wp2_with (go_at_call 74; refine Hid.out ?_)
      refine Lib.hid ?_
      refine (next_any A2 n2 c2 (b.drop i) w1 HL2.out r2 (by omega) hp2 HU.out).mono ?_
      rintro e w2 ⟨rfl, y⟩
      obtain ⟨r, hr⟩ : ∃ X, (nextR (b.drop i)).1 = X := ⟨_, rfl⟩
      obtain ⟨k, hk⟩ : ∃ X, (nextR (b.drop i)).2 = X := ⟨_, rfl⟩
      rw [hr, hk] at HR2 ⊢
      rw [hk] at HN
      clear hr hk sl r2 HL2 HU
      have hx2 := ext_trans hx y
      have ho2 := hown.below y (Nat.le_refl _)
      by_cases hz : k = 0
      · subst hz
        have HE : Hid (o = none) := Lib.hid (by rw [← HR2.out, if_pos rfl]; rfl)
        clear HR2 HN
        go_wp2_with (fail)
        refine bodyPost_ret (v := .tuple #[.slice none 0 0, .int .i64 3]) (by simp [results, Tryd.results50, go_sem]) rfl ?_
        exact ⟨.slice none 0 0, by rw [HE.out]; rfl, by rw [HE.out]; exact Ow.nil _ _, hx2⟩
      · have hzb : ((k : Int) == 0) = false := beq_eq_false_iff_ne.2 (by omega)
        have hkn := HN.out hz
        have HR3 : Hid ((readR (b.drop (i + k))).map ((l ++ [r]) ++ ·) = o) := Lib.hid (by
          have t := HR2.out
          rw [if_neg hz, Option.map_map] at t
          rw [← t]
          congr 1
          funext z
          simp)
        clear HR2 HN
        go_wp2_with (at_builtin; refine app_i32 (m := [r]) rfl (.tmp 21) (.tmp 23) rfl rfl (ho2.alloc _) _ _ _ _ rfl rfl (Rd.new (enc := encI32) (size := 1) (fun _ => rfl) w2 21 [r] (cs := #[.int .i32 r]) rfl rfl) (by simp only [List.length_cons, List.length_nil]; omega) (by rw [World.size_alloc]; have := hx2.size; omega) ?_; intro v' w' hown' hgr hv')
        have hx3 : Below w.heap.size w w' := (ext_trans hx2 (ext_alloc w2 _)).grown hgr (by rw [World.size_alloc]; have := hx2.size; omega) (fun k hk => (ho2.wb_lt k hk).1)
        go_roundg (n - (i + k))
        case measure => have := HG.out; omega
        case rel => exact ⟨i + k, w', l ++ [r], _, by omega, rfl, by go_num, rfl, rfl, HR3, hown', hx3, by simp; omega⟩
    · have hnl : b.drop i = [] := List.drop_eq_nil_of_le (by have := N.out; omega)
      have HE : Hid (o = some l) := Lib.hid (by rw [← HR.out, hnl, readR_nil]; simp)
      clear HR hnl
      go_wp2_with (fail)
      refine bodyPost_ret (v := .tuple #[v, .int .i64 0]) (by simp [results, Tryd.results50, go_sem]) rfl ?_
      exact ⟨v, by rw [HE.out]; rfl, by rw [HE.out]; exact hown, hx⟩
end Go.Proofs.YtclfplpggmefjaaDoor
