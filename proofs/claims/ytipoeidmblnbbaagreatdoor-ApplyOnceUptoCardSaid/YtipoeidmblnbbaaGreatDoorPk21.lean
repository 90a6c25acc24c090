/- The walk of cells.tell. -/
import Derived.Test.YtipoeidmblnbbaaGreatDoorMkIns3Pd
import Derived.Test.YtipoeidmblnbbaaGreatDoorPk14
namespace Go.Proofs.YtipoeidmblnbbaaGreatDoor
open Go.RowKit
set_option linter.unusedVariables false
set_option linter.unusedSimpArgs false

def tellM (m : Mk) (d : List Cl) : Mk := d.foldl (fun m c => mkInsert m [c.r] c.s) m
/-- how much a maker's inserts hold -/
def InsB (m : Mk) (K : Nat) : Prop := m.ins.length ≤ K ∧ ∀ o ∈ m.ins, o.s.length ≤ 10000000 ∧ o.r.length ≤ K ∧ o.p = []
theorem InsB.insert {m : Mk} {K : Nat} (h : InsB m K) (r : Int) {s : List At} (hs : s.length ≤ 10000000) : InsB (mkInsert m [r] s) (K + 1) := by
  obtain ⟨h1, h2⟩ := h
  unfold mkInsert addI
  rw [if_neg (by simp)]
  have base : ∀ o ∈ m.ins, o.s.length ≤ 10000000 ∧ o.r.length ≤ K + 1 ∧ o.p = [] := fun o ho => ⟨(h2 o ho).1, Nat.le_succ_of_le (h2 o ho).2.1, (h2 o ho).2.2⟩
  have push : InsB { m with ins := m.ins ++ [opI [r] s] } (K + 1) := ⟨by simp; omega, fun o ho => by
    rcases List.mem_append.1 ho with ho | ho
    · exact base o ho
    · simp at ho; subst ho; exact ⟨hs, by simp [opI], rfl⟩⟩
  cases hg : m.ins.getLast? with
  | none => exact push
  | some o =>
    simp only
    by_cases hc : o.s = s
    · rw [if_pos hc]
      have hm := List.mem_of_getLast? hg
      have hpos := List.length_pos_of_mem hm
      refine ⟨by simp; omega, fun x hx => ?_⟩
      rcases List.mem_append.1 hx with hx | hx
      · exact base x ((List.dropLast_sublist _).subset hx)
      · simp at hx; subst hx
        exact ⟨(h2 o hm).1, by have := (h2 o hm).2.1; simp; omega, (h2 o hm).2.2⟩
    · rw [if_neg hc]; exact push
theorem tellM_snoc (m : Mk) (d : List Cl) (c : Cl) : tellM m (d ++ [c]) = mkInsert (tellM m d) [c.r] c.s := by unfold tellM; rw [List.foldl_append]; rfl
theorem InsB.tell {m : Mk} {K : Nat} (h : InsB m K) : ∀ (d : List Cl), (∀ c ∈ d, c.s.length ≤ 10000000) → InsB (tellM m d) (K + d.length) := by
  intro d
  induction d generalizing m K with
  | nil => intro _; exact h
  | cons c d ih =>
    intro hs
    have := ih (h.insert c.r (hs c (by simp))) (fun x hx => hs x (by simp [hx]))
    rw [List.length_cons, show K + (d.length + 1) = K + 1 + d.length by omega]
    exact this

set_option maxRecDepth 100000 in
set_option maxHeartbeats 800000 in
theorem tell_any (b : Nat) (A : Option Addr) (n c : Nat) (d : List ClS) (w : World) (F : Nat → Prop) (m : Mk) (K : Nat) (h : Mkr w F b m) (hn : n = d.length) (hr : RdCl w w.heap.size A d) (ho : OffF F A d.length) (hos : ∀ x ∈ d, OffF F x.As x.c.s.length)
    (hs : ∀ x ∈ d, x.c.s.length ≤ 10000000) (hK : InsB m K) (hKn : K + n ≤ 1000000) :
    Calls Tryz.prog 72 #[.pointer (some ⟨b, 0, none⟩), .slice A n c] w (MkOut (tellM m (clsOf d)) w F b) := by
  have N := Lib.hid hn
  have HR := Lib.hid hr.1
  have HP := Lib.hid hr.2
  have HOS := Lib.hid hos
  have HS := Lib.hid hs
  have HK := Lib.hid (fun i => hK.tell ((clsOf d).take i) (fun c hc => by
    have := List.mem_of_mem_take hc
    unfold clsOf at this
    obtain ⟨x, hx, rfl⟩ := List.mem_map.1 this
    exact hs x hx))
  have H := Lib.hid h
  clear hn hr hos hs h hK
  have HL : Hid ((clsOf d).length = d.length) := Lib.hid (by unfold clsOf; simp)
  go_enter Tryz.func72, Tryz.ntmps72
  go_wp2_with (fail)
  go_loopg [8] n (fun g iv wr => ∃ (i : Nat) (F' : Nat → Prop), i ≤ n ∧ g = n - i ∧ iv = .int .i64 (i : Int) ∧ Mkr wr F' b (tellM m ((clsOf d).take i)) ∧ Grow w F wr F')
  case atStart => exact ⟨0, F, by omega, rfl, rfl, H.out, Grow.refl _ _⟩
  case round =>
    obtain ⟨i, F', hi, hg, rfl, hm, gr⟩ := hrel
    have HG := Lib.hid hg
    have HM := Lib.hid hm
    clear hg hm
    by_cases hlt : i < n
    · have hl1 : i < d.length := by have := N.out; omega
      obtain ⟨ad, x, rfl, had, _, hx, hc1⟩ := (HR.out.grow gr ho).el hl1
      have hxm := List.mem_of_getElem? hx
      have hxc : (clsOf d)[i]? = some x.c := by unfold clsOf; rw [List.getElem?_map, hx]; rfl
      have HT : Hid (tellM m ((clsOf d).take (i + 1)) = mkInsert (tellM m ((clsOf d).take i)) [x.c.r] x.c.s) := Lib.hid (by rw [List.take_add_one, hxc]; exact tellM_snoc _ _ _)
      have RS := Lib.hid ((HP.out x hxm).grow gr (HOS.out x hxm))
      have SL := Lib.hid (HS.out x hxm)
      have KB := Lib.hid (HK.out i)
      have KL := Lib.hid (show ((clsOf d).take i).length ≤ n by rw [List.length_take]; omega)
      obtain ⟨⟨r, s⟩, As, cs⟩ := x
      obtain ⟨z0, z1⟩ := cl_cells hc1
      clear hx hxm hxc hl1 hc1 had
      have ya := ext_alloc wr (.cells #[.int .i32 r, .slice As s.length cs] 59)
      have yb := ext_alloc (wr.alloc (.cells #[.int .i32 r, .slice As s.length cs] 59)) (.cells #[.int .i32 r] 21)
      have Y := Lib.hid (ext_trans ya yb)
      have hw2 : IntKind.i64.wrap ((i:Int) + 1) = (i : Int) + 1 := IntWalk.i64_in _ (by omega)
      clear ya yb
      go_wp2_with (go_at_call 53; refine Hid.out ?_)
      refine Lib.hid ?_
      refine (mkInsert_any b _ As 1 1 s.length cs [r] s _ F' (tellM m ((clsOf d).take i)) (HM.out.below Y.out) rfl rfl (by rw [World.size_alloc]; exact rd_one_at (enc := encI32) (size := 1) (wr.alloc (.cells #[.int .i32 r, .slice As s.length cs] 59)) 21 r rfl (by simp)) (RS.out.ext Y.out) (by omega) SL.out (by have := KB.out.1; have := KL.out; omega) (fun o ho => ⟨(KB.out.2 o ho).1, by have := (KB.out.2 o ho).2.1; have := KL.out; omega⟩)).mono ?_
      rintro e w3 ⟨rfl, F3, hm3, g3⟩
      have gg := gr.trans ((Grow.of Y.out).trans g3)
      rw [← HT.out] at hm3
      have HM3 := Lib.hid hm3
      clear hm3
      go_wp2_with (fail)
      go_roundg (n - (i + 1))
      case measure => have := HG.out; omega
      case rel => exact ⟨i + 1, F3, by omega, rfl, by go_num, HM3.out, gg⟩
    · have hin : i = n := by omega
      subst hin
      go_wp2_with (fail)
      refine bodyPost_ret (results_none rfl _ _ _) rfl ?_
      have e : (clsOf d).take i = clsOf d := List.take_of_length_le (by rw [HL.out]; have := N.out; omega)
      have hm := HM.out
      rw [e] at hm
      exact ⟨rfl, F', hm, gr⟩
end Go.Proofs.YtipoeidmblnbbaaGreatDoor
