/- The walks of rubricref14.Complete, Typed, hold, Step. -/
import Derived.Test.YtfnkjcodcoehcaaKeys04
import Derived.Test.YtfnkjcodcoehcaaRef06W
namespace Go.Proofs.Ytfnkjcodcoehcaa
open Go.RowKit
set_option linter.unusedVariables false
set_option linter.unusedSimpArgs false

/-- what rubricref14.Complete answers -/
def ComplOut14 (l : List Ky) (p : List Ch) (w : World) (e : Ending) (w' : World) : Prop :=
  ∃ (r : List Ch) (er : Int) (A : Option Addr) (c : Nat), e = .returned (.tuple #[.slice A r.length c, .int .i64 er]) ∧ (riseC p = true → confP l p = true ∧ er = 3 ∧ r = [] ∨ confP l p = false ∧ er = 0 ∧ r = completeP l p) ∧ r.length ≤ p.length + p.length * 1000 ∧ OwCh w' w.heap.size (.slice A r.length c) r ∧ Below w.heap.size w w'
set_option maxRecDepth 100000 in
set_option maxHeartbeats 4000000 in
theorem compl14_any (A_k : Option Addr) (n_k c_k : Nat) (l : List Ky) (A : Option Addr) (n c : Nat) (p : List Ch) (w : World) (hnk : n_k = l.length) (r_k : RdKy w w.heap.size A_k l) (hbk : n_k ≤ 140737488355328) (hn : n = p.length) (h : RdCh w w.heap.size A p) (hb : n ≤ 1000) (hm : mayKs l = true) :
    Calls Try.prog 14 #[.slice A_k n_k c_k, .slice A n c] w (ComplOut14 l p w) := by
  have N := Lib.hid hn
  have N_k := Lib.hid hnk
  have HM := Lib.hid hm
  clear hn hnk hm
  go_enter Try.func14, Try.ntmps14
  go_wp2_with ((at_builtin; refine app_ch (l := []) (m := p) rfl (.tmp 12) (.tmp 13) rfl rfl (by exact Ow.empty _ w.heap.size _) _ _ _ _ rfl N.out (by exact h.ext (ext_alloc w _)) (by have := N.out; simp only [List.length_nil]; omega) (by simp) ?_; intro v1 w1 ho1 g1 hv1))
  rw [List.nil_append] at ho1
  have O1 := Lib.hid ho1
  have Y1 : Hid (Below w.heap.size w w1) := Lib.hid ((ext_alloc w _).grown g1 (by simp) (fun k hk => by cases hk))
  clear ho1 g1 hv1
  go_wp2_with (fail)
  go_loopg [6, 7] n (fun g ov iv wr => ∃ (m : Nat) (r : List Ch), m ≤ n ∧ g = n - m ∧ iv = .int .i64 (m : Int) ∧ OwCh wr w.heap.size ov r ∧ r.length ≤ n + m * 1000 ∧ Below w.heap.size w wr ∧ Hid (ComplInv l p r (fun k => k ∈ othersOf l (p.take m))))
  case atStart => exact ⟨0, p, by omega, rfl, rfl, O1.out, by have := N.out; omega, Y1.out, Lib.hid (fun hp => ⟨[], hp, fun k => (complLk_nil p k).symm, fun k => by simp [othersOf], rfl⟩)⟩
  case round =>
    obtain ⟨m, r, hm, hg, rfl, hown, hrl, y, HI⟩ := hrel
    have HG := Lib.hid hg
    clear hg O1 Y1
    by_cases hlt : m < n
    · obtain ⟨ad, x, rfl, hd1, hx1, hc0⟩ := (h.ext y).elIn (i := m) (by have := N.out; omega)
      have hsn := othersOf_snoc l (p.take m) x
      rw [← take_snoc hx1] at hsn
      have HX := Lib.hid (List.mem_of_getElem? hx1)
      obtain ⟨x1, x6, x2, x3, x4, x5⟩ := x
      have HSN := Lib.hid hsn
      have CX := Lib.hid hc0
      obtain ⟨r0, r1, r2, r3, r4, r5⟩ := ch_cells CX.out.2
      have HOW := Lib.hid hown
      have hw2 : IntKind.i64.wrap ((m:Int) + 1) = (m : Int) + 1 := IntWalk.i64_in _ (by omega)
      clear hc0 hd1 hx1 hsn hown
      cases x6 with
      | true =>
        go_wp2_with (fail)
        go_roundg (n - (m + 1))
        case measure => have := HG.out; omega
        case rel =>
          refine ⟨m + 1, r, by omega, rfl, by go_num, HOW.out, by omega, y, Lib.hid (HI.out.congr fun k => ?_)⟩
          rw [HSN.out]; simp
      | false =>
        go_wp2_with (go_at_call 39; refine Hid.out ?_)
        refine Lib.hid ?_
        clear r0 r1 r2 r3 r4 r5
        refine (group04_any A_k n_k c_k l x1 _ N_k.out (r_k.ext y) (by omega) HM.out).mono ?_
        rintro e w3 ⟨g, Ag, cg, rfl, hgp, hgl, hgo, y3⟩
        have HOW3 := Lib.hid (HOW.out.below y3 (Nat.le_refl _))
        have y4 := ext_trans y y3
        have RG := Lib.hid (hgo.rd encInt_len)
        obtain ⟨ng, hng⟩ : ∃ ng, ng = g.length := ⟨_, rfl⟩
        rw [← hng] at hgl ⊢
        have NG := Lib.hid hng
        have GP := Lib.hid hgp
        clear hng hgp hgo
        have hgl2 : ng ≤ 1000 := by omega
        go_wp2_with (fail)
        go_loopg [6, 9] ng (fun gh ov iv wi => ∃ (j : Nat) (r : List Ch), j ≤ ng ∧ gh = ng - j ∧ iv = .int .i64 (j : Int) ∧ OwCh wi w.heap.size ov r ∧ r.length ≤ n + m * 1000 + j ∧ Below w3.heap.size w3 wi ∧ Below w.heap.size w wi ∧ Hid (ComplInv l p r (fun k => k ∈ othersOf l (p.take m) ∨ k ∈ g.take j)))
        case atStart => exact ⟨0, r, by omega, rfl, rfl, HOW3.out, by omega, Below.refl _ _, y4, Lib.hid (HI.out.congr fun k => by simp)⟩
        case round =>
          clear HI HOW HOW3 hrl y3
          obtain ⟨j, r, hj, hg2, rfl, hown, hrl, yi, yj, HI⟩ := hrel
          have HG2 := Lib.hid hg2
          have HOW := Lib.hid hown
          clear hg2 hown
          by_cases hlj : j < ng
          · obtain ⟨ad2, o, rfl, _, ho1, hoc⟩ := (RG.out.ext yi).elIn (i := j) (by have := NG.out; omega)
            have HOC := Lib.hid hoc
            have q0 : _ = some (Value.int .i64 o) := hoc.2 0 _ rfl
            rw [add_zero', Nat.mul_one] at q0
            have HMEM := Lib.hid ((GP.out o).1 (List.mem_of_getElem? ho1))
            have HTM := Lib.hid (take_mem ho1)
            have hw3 : IntKind.i64.wrap ((j:Int) + 1) = (j : Int) + 1 := IntWalk.i64_in _ (by omega)
            clear ho1 hoc
            go_wp2_with (go_at_call 40; refine Hid.out ?_)
            refine Lib.hid ?_
            clear q0
            refine (find06_any (some ad) n c p o _ N.out (h.ext yj) (by omega)).mono ?_
            rintro e w5 ⟨d1, d6, d2, d3, d4, d5, ok, rfl, hk, hbk, y5⟩
            have y6 := ext_alloc w5 (.cells #[.int .i64 d1, .bool d6, .int .u8 d2, .int .i64 d3, .int .u64 d4, .string d5] 49)
            have hbx := heap_alloc_new w5 (.cells #[.int .i64 d1, .bool d6, .int .u8 d2, .int .i64 d3, .int .u64 d4, .string d5] 49)
            have y7 := ext_trans y5 y6
            have HOW5 := Lib.hid (HOW.out.below y7 (Nat.le_refl _))
            have HOC := Lib.hid (HOC.out.ext y7)
            have yi2 := ext_trans yi y7
            have yj2 := ext_trans yj y7
            obtain ⟨f0, f1, f2, f3, f4, f5⟩ := box_ch hbx
            have q0 : _ = some (Value.int .i64 o) := HOC.out.2 0 _ rfl
            rw [add_zero', Nat.mul_one] at q0
            have HK := Lib.hid hk
            have HB := Lib.hid hbk
            clear hk hbk hbx y5 y6 y7
            cases ok with
            | true =>
              have HL : Hid (lk Ch.key p o = some ⟨d1, d6, ⟨d2, d3, d4, d5⟩⟩) := Lib.hid (by
                have h1 := HB.out
                have h2 := HK.out
                cases hq : lk Ch.key p o with
                | none => rw [hq] at h1; cases h1
                | some k => rw [hq] at h2; simp only [Option.getD_some] at h2; rw [h2])
              clear HK HB
              cases d6 with
              | true =>
                go_wp2_with (fail)
                go_roundg (ng - (j + 1))
                case measure => have := HG2.out; omega
                case rel =>
                  refine ⟨j + 1, r, by omega, rfl, by go_num, HOW5.out, by omega, yi2, yj2, Lib.hid ((HI.out.stay HL.out rfl).congr fun k => ?_)⟩
                  rw [← HTM.out k, or_assoc]
              | false =>
                go_wp2_with (fail)
                refine bodyPost_ret (v := .tuple #[.slice none 0 0, .int .i64 3]) (by simp [results, Try.results14, go_sem]) rfl ?_
                exact ⟨[], 3, none, 0, rfl, fun hp => .inl ⟨conf_mem HX.out rfl HMEM.out HL.out rfl, rfl, rfl⟩, by simp, Ow.nil _ _, yj2⟩
            | false =>
              have HL : Hid (lk Ch.key p o = none) := Lib.hid (by
                have h1 := HB.out
                cases hq : lk Ch.key p o with
                | none => rfl
                | some k => rw [hq] at h1; cases h1)
              clear HK HB
              obtain ⟨A6, c6, rfl, _, _⟩ := HOW.out.form
              obtain ⟨nr, hnr⟩ : ∃ nr, nr = r.length := ⟨_, rfl⟩
              rw [← hnr] at HOW5 hrl ⊢
              have NR := Lib.hid hnr
              clear HOW
              have hln : (putF (goneK o) r).length ≤ nr + 1 := by have := putF_len (goneK o) r; omega
              have HLN := Lib.hid hln
              clear hnr hln
              go_wp2_with (go_at_call 41; refine Hid.out ?_)
              refine Lib.hid ?_
              clear f0 f1 f2 f3 f4 f5 q0
              refine (put06_any A6 nr c6 r o true 0 0 0 ⟨#[]⟩ _ NR.out (HOW5.out.rd Ch.enc_len) (by omega)).mono ?_
              rintro e w7 ⟨A7, c7, rfl, ho7, y8⟩
              have O7 := Lib.hid (ho7.base_le (B := w.heap.size) yj2.size)
              have yi3 := ext_trans yi2 y8
              have yj3 := ext_trans yj2 y8
              clear ho7 y8
              go_wp2_with (fail)
              go_roundg (ng - (j + 1))
              case measure => have := HG2.out; omega
              case rel =>
                refine ⟨j + 1, putF (goneK o) r, by omega, rfl, by go_num, O7.out, by have := HLN.out; omega, yi3, yj3, Lib.hid ((HI.out.put HL.out).congr fun k => ?_)⟩
                rw [← HTM.out k, or_assoc]
          · have hjn : j = ng := by omega
            have HJ := Lib.hid hjn
            clear hjn
            go_wp2_with (fail)
            go_roundg (n - (m + 1))
            case measure => have := HG.out; omega
            case rel =>
              refine ⟨m + 1, r, by omega, rfl, by go_num, HOW.out, by omega, yj, Lib.hid (HI.out.congr fun k => ?_)⟩
              rw [HSN.out, HJ.out, NG.out, List.take_length, List.mem_append, GP.out k]
              simp
    · have hmn : m = n := by omega
      have HMN := Lib.hid hmn
      obtain ⟨A6, c6, rfl, _, _⟩ := hown.form
      have HOW := Lib.hid hown
      clear hown hmn
      go_wp2_with (fail)
      refine bodyPost_ret (v := .tuple #[.slice A6 r.length c6, .int .i64 0]) (by simp [results, Try.results14, go_sem]) rfl ?_
      refine ⟨r, 0, A6, c6, rfl, fun hp => .inr ?_, by have := N.out; omega, HOW.out, y⟩
      have e : p.take m = p := List.take_of_length_le (by have := N.out; have := HMN.out; omega)
      have h1 := HI.out
      rw [e] at h1
      obtain ⟨g1, g2⟩ := h1.done hp
      exact ⟨g1, rfl, g2⟩
end Go.Proofs.Ytfnkjcodcoehcaa
