/- The walk of rubriclaw01.RunesTexts. -/
import Derived.Test.YteaglmdlghdohaaDoorRuKnown
namespace Go.Proofs.YteaglmdlghdohaaDoor
open Go.RowKit
set_option linter.unusedVariables false
set_option linter.unusedSimpArgs false

theorem encR_mem {r : Int} (h : mayR r = true) : ∀ x ∈ encR r, 0 ≤ x ∧ x ≤ 255 := by
  have hb := mayR_le h
  unfold encR
  repeat' split
  all_goals
    intro x hx
    simp only [List.mem_cons, List.not_mem_nil, or_false] at hx
    omega
theorem bytesR_mem {l : List Int} (h : okR l = true) : ∀ x ∈ bytesR l, 0 ≤ x ∧ x ≤ 255 := by
  intro x hx
  obtain ⟨r, hr, hx⟩ := List.mem_flatMap.1 hx
  exact encR_mem (List.all_eq_true.1 h r hr) x hx
/-- the bytes that are answered -/
def outB (l : List Int) : List Int := if okR l = true then bytesR l else []
def outE (l : List Int) : Int := if okR l = true then 0 else 3
theorem outB_mem (l : List Int) : ∀ x ∈ outB l, 0 ≤ x ∧ x ≤ 255 := by
  unfold outB
  split
  · rename_i h; exact bytesR_mem h
  · intro x hx; cases hx
theorem outB_len (l : List Int) : (outB l).length ≤ 4 * l.length := by
  unfold outB
  split
  · exact bytesR_len l
  · simp
theorem readR_len {b l : List Int} (hu : ∀ x ∈ b, 0 ≤ x ∧ x ≤ 255) (h : readR b = some l) : l.length ≤ b.length := by
  have h2 := (read_iff hu h).2
  rw [← h2]
  clear h h2 hu
  induction l with
  | nil => simp
  | cons r l ih =>
    have e : bytesR (r :: l) = encR r ++ bytesR l := rfl
    have := (encR_len r).1
    rw [e, List.length_append, List.length_cons]
    omega
theorem readD_len {b : List Int} (hu : ∀ x ∈ b, 0 ≤ x ∧ x ≤ 255) : ((readR b).getD []).length ≤ b.length := by
  cases h : readR b with
  | none => simp
  | some l => exact readR_len hu h
/-- a string of bytes -/
def strB (l : List Int) : ByteArray := ⟨(l.map fun x => UInt8.ofNat x.toNat).toArray⟩
theorem strB_int (t : List UInt8) : strB (intB t) = ⟨t.toArray⟩ := by
  unfold strB intB
  rw [List.map_map, List.map_congr_left (g := id), List.map_id]
  intro x _
  simp
theorem conv_rd {w : World} {B : Nat} {A : Option Addr} {l : List Int} {n c : Nat} (hn : n = l.length) (h : RdU8 w B A l) (hu : ∀ x ∈ l, 0 ≤ x ∧ x ≤ 255) :
    (convert 23 9 (.slice A n c)).run Tryd.prog w = .ok (.string (strB l)) w := by
  obtain ⟨t, rfl⟩ := intB_of hu
  rw [strB_int]
  rw [intB_len] at hn
  exact conv_str hn (rd_intB.1 h)

theorem ow_sl {α : Type} {enc : α → List Value} {size : Nat} {e : TypeId} {w : World} {base n : Nat} {v : Value} {l k : List α} (h : Ow enc size e w base v k) (hk : k = l) (hn : n = l.length) : ∃ A c, v = .slice A n c ∧ n ≤ c ∧ Ow enc size e w base (.slice A n c) l := by
  subst hk; subst hn
  obtain ⟨A, c, rfl, h1, _⟩ := h.form
  exact ⟨A, c, rfl, h1, h⟩
/-- the answers, to be read -/
theorem bytes_out {l : List Int} {w w' : World} {e : Ending} (h : BytesOut l w e w') : ∃ A n c, e = .returned (.tuple #[.slice A n c, .int .i64 (outE l)]) ∧ n = (outB l).length ∧ n ≤ c ∧ RdU8 w' w'.heap.size A (outB l) ∧ Below w.heap.size w w' := by
  obtain ⟨v, rfl, ho, y⟩ := h
  obtain ⟨A, c, rfl, hc, ho⟩ := ow_sl ho (l := outB l) rfl rfl
  exact ⟨A, _, c, rfl, rfl, hc, ho.rd encU8_len, y⟩
def outR (o : Option (List Int)) : Int := if o.isSome = true then 0 else 3
theorem read_out {o : Option (List Int)} {w w' : World} {e : Ending} (h : ReadOut o w e w') : ∃ A n c, e = .returned (.tuple #[.slice A n c, .int .i64 (outR o)]) ∧ n = (o.getD []).length ∧ n ≤ c ∧ RdI32 w' w'.heap.size A (o.getD []) ∧ Below w.heap.size w w' := by
  obtain ⟨v, rfl, ho, y⟩ := h
  obtain ⟨A, c, rfl, hc, ho⟩ := ow_sl ho (l := o.getD []) rfl rfl
  exact ⟨A, _, c, rfl, rfl, hc, ho.rd encI32_len, y⟩

set_option maxHeartbeats 4000000 in
theorem runesTexts_any (A B : Option Addr) (n m c d : Nat) (l b : List Int) (r : Int) (w : World) (hn : n = l.length) (hm : m = b.length) (hmd : m ≤ d) (h1 : RdI32 w w.heap.size A l) (h2 : RdU8 w w.heap.size B b)
    (hu : ∀ x ∈ b, 0 ≤ x ∧ x ≤ 255) (hT : Lib.Utf8Tabs 0 1 w) :
    Calls Tryd.prog 3 #[.slice A n c, .slice B m d, .int .i32 r] w (YesB w) := by
  have N := Lib.hid hn
  have M := Lib.hid hm
  clear hn hm
  by_cases g1 : 3000 < n
  · have g1z : (3000 : Int) < (n : Int) := by omega
    go_enter Tryd.func3, Tryd.ntmps3
    go_wp2_with (go_at_call 7; refine Hid.out ?_)
    refine Lib.hid ?_
    refine (known_any w hT).mono ?_
    rintro e w1 ⟨rfl, y⟩
    go_wp2_with (fail)
    go_ret
    exact ⟨rfl, y⟩
  · by_cases g2 : 3000 < m
    · have g1z : ¬ ((3000 : Int) < (n : Int)) := by omega
      have g2z : (3000 : Int) < (m : Int) := by omega
      go_enter Tryd.func3, Tryd.ntmps3
      go_wp2_with (go_at_call 7; refine Hid.out ?_)
      refine Lib.hid ?_
      refine (known_any w hT).mono ?_
      rintro e w1 ⟨rfl, y⟩
      go_wp2_with (fail)
      go_ret
      exact ⟨rfl, y⟩
    · have g1z : ¬ ((3000 : Int) < (n : Int)) := by omega
      have g2z : ¬ ((3000 : Int) < (m : Int)) := by omega
      go_enter Tryd.func3, Tryd.ntmps3
      go_wp2_with (first
        | (at_builtin; refine app_i32 (m := l) rfl (.tmp 26) (.tmp 27) rfl rfl (Ow.empty _ w.heap.size _) _ _ _ _ rfl N.out (h1.alloc (Nat.le_refl _) _) (by have := N.out; simp only [List.length_nil]; omega) (by rw [World.size_alloc]; omega) ?_; intro v1 w1 hown1 hgr1 hv1; have x1 : Below w.heap.size w w1 := (ext_alloc w _).grown hgr1 (by rw [World.size_alloc]; omega) (fun k hk => by cases hk); clear hgr1 hv1)
        | (at_builtin; refine app_u8 (m := b) rfl (.tmp 29) (.tmp 30) rfl rfl (Ow.empty _ w.heap.size _) _ _ _ _ rfl M.out ((h2.ext x1).alloc (Nat.le_refl _) _) (by have := M.out; simp only [List.length_nil]; omega) (by rw [World.size_alloc]; have := x1.size; omega) ?_; intro v2 w2 hown2 hgr2 hv2; have x2 : Below w1.heap.size w1 w2 := (ext_alloc w1 _).grown hgr2 (by rw [World.size_alloc]; omega) (fun k hk => by cases hk); clear hgr2 hv2)
        | (go_at_call 8; refine Hid.out ?_))
      obtain ⟨A1, c1, rfl, hc1, hown1⟩ := ow_sl hown1 (l := l) (List.nil_append l) N.out
      obtain ⟨A2, c2, rfl, hc2, hown2⟩ := ow_sl hown2 (l := b) (List.nil_append b) M.out
      have ri := (hown1.rd encI32_len).ext x2
      have rt := hown2.rd encU8_len
      have x3 := ext_trans x1 x2
      clear hown1 hown2 x1 x2
      refine Lib.hid ?_
      refine (bytes_any A1 n c1 l w2 N.out ri (by omega)).mono ?_
      intro e w3 h
      obtain ⟨A3, n3, c3, rfl, h3, hc3, r3, y3⟩ := bytes_out h
      have H3 := Lib.hid h3
      obtain ⟨E1, hE1⟩ : ∃ X, outE l = X := ⟨_, rfl⟩
      rw [hE1]
      have HE1 := Lib.hid hE1
      have x4 := ext_trans x3 y3
      have ri3 := ri.ext y3
      have rt3 := rt.ext y3
      clear h h3 hE1 ri rt x3 y3
      go_wp2_with (go_at_call 9; refine Hid.out ?_)
      refine Lib.hid ?_
      refine (refBytes_any A n c l w3 N.out (h1.ext x4) (by omega)).mono ?_
      intro e w4 h
      obtain ⟨A4, n4, c4, rfl, h4, hc4, r4, y4⟩ := bytes_out h
      rw [HE1.out]
      have H4 := Lib.hid h4
      have x5 := ext_trans x4 y4
      have ri4 := ri3.ext y4
      have rt4 := rt3.ext y4
      have r34 := r3.ext y4
      clear h h4 ri3 rt3 r3 x4 y4 HE1
      go_wp2_with (go_at_call 10; refine Hid.out ?_)
      refine Lib.hid ?_
      refine (read_any A2 m c2 b w4 M.out hc2 rt4 (by omega) hu (Utf8Tabs_below hT x5)).mono ?_
      intro e w5 h
      obtain ⟨A5, n5, c5, rfl, h5, hc5, r5, y5⟩ := read_out h
      obtain ⟨E2, hE2⟩ : ∃ X, outR (readR b) = X := ⟨_, rfl⟩
      rw [hE2]
      have HE2 := Lib.hid hE2
      have H5 := Lib.hid h5
      have x6 := ext_trans x5 y5
      have ri5 := ri4.ext y5
      have rt5 := rt4.ext y5
      have r35 := r34.ext y5
      have r45 := r4.ext y5
      clear h h5 hE2 ri4 rt4 r34 r4 x5 y5
      go_wp2_with (go_at_call 11; refine Hid.out ?_)
      refine Lib.hid ?_
      refine (refRead_any B m d b w5 M.out hmd (h2.ext x6) (by omega) hu).mono ?_
      intro e w6 h
      obtain ⟨A6, n6, c6, rfl, h6, hc6, r6, y6⟩ := read_out h
      rw [HE2.out]
      have H6 := Lib.hid h6
      have x7 := ext_trans x6 y6
      have ri6 := ri5.ext y6
      have rt6 := rt5.ext y6
      have r36 := r35.ext y6
      have r46 := r45.ext y6
      have r56 := r5.ext y6
      clear h h6 ri5 rt5 r35 r45 r5 x6 y6 HE2
      have hcv1 : (convert 23 9 (.slice A3 n3 c3)).run Tryd.prog w6 = .ok (.string (strB (outB l))) w6 := conv_rd H3.out r36 (outB_mem l)
      have hcv2 : (convert 23 9 (.slice A4 n4 c4)).run Tryd.prog w6 = .ok (.string (strB (outB l))) w6 := conv_rd H4.out r46 (outB_mem l)
      generalize strB (outB l) = S at hcv1 hcv2
      have hn5 : n5 ≤ m := by rw [H5.out, M.out]; exact readD_len hu
      have hn6 : n6 ≤ m := by rw [H6.out, M.out]; exact readD_len hu
      clear r36 r46 H3 H4
      go_wp2_with (go_at_call 12; refine Hid.out ?_)
      refine Lib.hid ?_
      refine (refSame_any A5 A6 n5 n6 c5 c6 _ _ w6 H5.out H6.out r56 r6 (by omega) (by omega)).mono ?_
      rw [decide_eq_true rfl]
      rintro e w7 ⟨rfl, q7, hq7⟩
      have y7 : Below w6.heap.size w6 w7 := by rw [hq7]; exact ext_drew w6 q7
      have x8 := ext_trans x7 y7
      have ri7 := ri6.ext y7
      have rt7 := rt6.ext y7
      clear hq7 hcv1 hcv2 y7 ri6 rt6 r56 r6 x7
      obtain ⟨bm, hbm⟩ : ∃ X, mayR r = X := ⟨_, rfl⟩
      have HB := Lib.hid hbm
      clear hbm
      go_wp2_with (first
        | (go_at_call 13; refine (may_any r w7).mono ?_; rintro e w8 ⟨rfl, rfl⟩; rw [HB.out])
        | (go_at_call 14; refine (refMay_any r w7).mono ?_; rintro e w8 ⟨rfl, rfl⟩; rw [HB.out])
        | (go_at_call 15; refine Hid.out ?_))
      refine Lib.hid ?_
      refine (newlines_any A n c l w7 N.out (h1.ext x8) (by omega)).mono ?_
      obtain ⟨k, hk⟩ : ∃ X, ((nlR l : Nat) : Int) = X := ⟨_, rfl⟩
      have HK := Lib.hid hk
      clear hk
      rw [HK.out]
      rintro e w8 ⟨rfl, rfl⟩
      go_wp2_with (go_at_call 16; refine Hid.out ?_)
      refine Lib.hid ?_
      refine (refNewlines_any A n c l w7 N.out (h1.ext x8) (by omega)).mono ?_
      rw [HK.out]
      rintro e w8 ⟨rfl, rfl⟩
      go_wp2_with (go_at_call 12; refine Hid.out ?_)
      refine Lib.hid ?_
      refine (refSame_any A1 A n n c1 c l l w7 N.out N.out ri7 (h1.ext x8) (by omega) (by omega)).mono ?_
      rw [decide_eq_true rfl]
      rintro e w9 ⟨rfl, q9, hq9⟩
      have y9 : Below w7.heap.size w7 w9 := by rw [hq9]; exact ext_drew w7 q9
      have x9 := ext_trans x8 y9
      have hcv3 : (convert 23 9 (.slice A2 m c2)).run Tryd.prog w9 = .ok (.string (strB b)) w9 := conv_rd M.out (rt7.ext y9) hu
      have hcv4 : (convert 23 9 (.slice B m d)).run Tryd.prog w9 = .ok (.string (strB b)) w9 := conv_rd M.out (h2.ext x9) hu
      generalize strB b = S at hcv3 hcv4
      clear hq9 y9 ri7 rt7 x8 HK
      go_wp2_with (go_at_call 7; refine Hid.out ?_)
      refine Lib.hid ?_
      refine (known_any w9 (Utf8Tabs_below hT x9)).mono ?_
      rintro e w10 ⟨rfl, y10⟩
      clear hcv3 hcv4
      go_wp2_with (fail)
      go_ret
      exact ⟨rfl, ext_trans x9 y10⟩
end Go.Proofs.YteaglmdlghdohaaDoor
