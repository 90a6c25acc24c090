/- Merged texts: Step, RulesOneLaw, FormLaw, StepLaw. -/
import Derived.Test.YtfnkjcodcoehcaaGreatDoorY21
import Derived.Test.YtfnkjcodcoehcaaGreatDoorY7
import Derived.Test.YtfnkjcodcoehcaaGreatDoorY9
import Derived.Test.YtfnkjcodcoehcaaGreatDoorY18
import Derived.Test.YtfnkjcodcoehcaaGreatDoorY19
import Derived.Test.YtfnkjcodcoehcaaGreatDoorY15
namespace Go.Proofs.YtfnkjcodcoehcaaGreatDoor
open Go.RowKit
set_option linter.unusedVariables false
set_option linter.unusedSimpArgs false

def holdI (n lo hi : Int) : Int := if n < lo then lo else if hi < n then hi else n
theorem holdI_lo {n lo hi : Int} (h : lo ≤ hi) : lo ≤ holdI n lo hi ∧ holdI n lo hi ≤ hi := by unfold holdI; split <;> (try split) <;> omega
def stepN (s : List At) (key b : Int) : Int :=
  holdI (holdI (match getA s key with | some v => if v.k = 2 then v.n else 0 | none => 0) 0 8 + holdI b (-8) 8) 0 8
def stepQ (l : List Ky) (key n : Int) : List Ch := if n = 0 then [goneK key] else completeP l [⟨key, false, ⟨2, n, 0, ⟨#[]⟩⟩⟩]
def stepP (l : List Ky) (s : List At) (key b : Int) : List Ch × Int :=
  match findK l key with
  | none => ([], 4)
  | some k => if ¬ k.kind = 2 then ([], 4) else if k.block = false then ([], 7) else
    if applyP (stepQ l key (stepN s key b)) s = s then ([], 0) else (stepQ l key (stepN s key b), 0)
theorem group_ne {l : List Ky} {id k : Int} (h : k ∈ groupL l id) : k ≠ id := by
  unfold groupL at h
  cases hf : findK l id with
  | none => rw [hf] at h; simp at h
  | some x =>
    rw [hf] at h
    simp only at h
    split at h
    · simp at h
    · unfold othersL at h
      obtain ⟨o, ho, rfl⟩ := List.mem_map.1 h
      have := (List.mem_filter.1 ho).2
      simp at this
      exact this.2
theorem conf_one (l : List Ky) (c : Ch) : confP l [c] = false := by
  unfold confP
  rw [Bool.eq_false_iff]
  intro h
  obtain ⟨k, hk, hs⟩ := List.any_eq_true.1 h
  obtain ⟨d, hd, _, hg⟩ := mem_othersOf.1 hk
  simp at hd
  subst hd
  have := group_ne hg
  unfold setB at hs
  rw [lk_cons, if_neg (fun e => this e.symm), lk_nil] at hs
  cases hs
theorem one_rise (c : Ch) : riseC [c] = true := rfl
theorem completeP_rise {l : List Ky} {p : List Ch} (h : riseC p = true) : riseC (completeP l p) = true := riseC_srt.2 (complF_all _ (riseC_srt.1 h)).1
theorem completeP_lk {l : List Ky} {p : List Ch} (h : riseC p = true) (k : Int) : lk Ch.key (completeP l p) k = complLk (othersOf l p) p k := (complF_all _ (riseC_srt.1 h)).2 k
theorem stepQ_rise (l : List Ky) (key n : Int) : riseC (stepQ l key n) = true := by
  unfold stepQ
  split
  · rfl
  · exact completeP_rise rfl
theorem drop1_len (k : Int) (s : List At) : (drop1 k s).length ≤ s.length := by
  cases s with
  | nil => simp [drop1]
  | cons a s => show (if a.key = k then s else a :: s).length ≤ _; split <;> simp
theorem apply_len_any : ∀ (p : List Ch) (s : List At), (applyP p s).length ≤ p.length + s.length
  | [], s => by simp [applyP]
  | c :: p, s => by
    rw [applyP]
    have h1 := apply_len_any p (drop1 c.key (s.dropWhile (fun a => decide (a.key < c.key))))
    have h2 := drop1_len c.key (s.dropWhile (fun a => decide (a.key < c.key)))
    have h3 : (s.takeWhile (fun a => decide (a.key < c.key))).length + (s.dropWhile (fun a => decide (a.key < c.key))).length = s.length := by
      rw [← List.length_append, List.takeWhile_append_dropWhile]
    have h4 : (put1 c).length ≤ 1 := by unfold put1; split <;> simp
    simp only [List.length_append, List.length_cons]
    omega

theorem ow_one (w : World) (a : Ch) (base : Nat) (cs : Array Value) (hc : cs.toList = a.enc) (hb : base ≤ w.heap.size) (b : Nat) (he : b = w.heap.size) : OwCh (w.alloc (.cells cs 77)) base (.slice (some ⟨b, 0, none⟩) 1 1) [a] := by
  subst he
  refine .inr ⟨flat_len Ch.enc_len _, .inr ⟨w.heap.size, 1, cs, rfl, hb, heap_alloc_new _ _, Nat.le_refl _, by unfold maxLen; omega, ?_, ?_⟩⟩
  · rw [← Array.length_toList, hc]; rfl
  · rw [hc]; simp [Ch.enc]
set_option maxHeartbeats 400000 in
theorem hold_any (n lo hi : Int) (w : World) (h : lo ≤ hi) :
    Calls Tryz.prog 194 #[.int .i64 n, .int .i64 lo, .int .i64 hi] w fun e w' => ∃ x, e = .returned (.int .i64 x) ∧ Hid (x = holdI n lo hi) ∧ lo ≤ x ∧ x ≤ hi ∧ w = w' := by
  obtain ⟨h1, h2⟩ := holdI_lo (n := n) h
  by_cases c1 : n < lo
  · have c2 : holdI n lo hi = lo := by unfold holdI; rw [if_pos c1]
    have H2 := Lib.hid c2
    clear h1 h2 c2
    go_enter Tryz.func194, Tryz.ntmps194
    go_wp2_with (fail)
    go_ret
    exact ⟨lo, ret_int (by omega), Lib.hid H2.out.symm, by omega, by omega, rfl⟩
  by_cases c3 : hi < n
  · have c2 : holdI n lo hi = hi := by unfold holdI; rw [if_neg c1, if_pos c3]
    have H2 := Lib.hid c2
    clear h1 h2 c2
    go_enter Tryz.func194, Tryz.ntmps194
    go_wp2_with (fail)
    go_ret
    exact ⟨hi, ret_int (by omega), Lib.hid H2.out.symm, by omega, by omega, rfl⟩
  have c2 : holdI n lo hi = n := by unfold holdI; rw [if_neg c1, if_neg c3]
  have H2 := Lib.hid c2
  clear h1 h2 c2
  go_enter Tryz.func194, Tryz.ntmps194
  go_wp2_with (fail)
  go_ret
  exact ⟨n, ret_int (by omega), Lib.hid H2.out.symm, by omega, by omega, rfl⟩

def StepOut (l : List Ky) (s : List At) (key b : Int) (w : World) (e : Ending) (w' : World) : Prop :=
  ∃ (r : List Ch) (er : Int) (A : Option Addr) (c : Nat), e = .returned (.tuple #[.slice A r.length c, .int .i64 er]) ∧ (riseA s = true → (r, er) = stepP l s key b) ∧ r.length ≤ 65 ∧ OwCh w' w.heap.size (.slice A r.length c) r ∧ Below w.heap.size w w'

set_option maxRecDepth 100000 in
set_option maxHeartbeats 4000000 in
theorem step_any (s : Nat) (l : List Ky) (A : Option Addr) (n c : Nat) (set : List At) (key b : Int) (w : World) (hn : n = set.length) (h : RdAt w w.heap.size A set) (hb : n ≤ 1000000) (hc1 : n ≤ c) (hcm : c ≤ maxLen) (hS : Sch w s l) (hl : l.length ≤ 64) :
    Calls Tryz.prog 144 #[.pointer (some ⟨s, 0, none⟩), .slice A n c, .int .i64 key, .int .i64 b] w (StepOut l set key b w) := by
  have N := Lib.hid hn
  have HS := Lib.hid hS
  have C1 := Lib.hid hc1
  have C2 := Lib.hid hcm
  clear hn hS hc1 hcm
  go_enter Tryz.func144, Tryz.ntmps144
  go_wp2_with (go_at_call 62; refine Hid.out ?_)
  refine Lib.hid ?_
  refine (findS_any s l key w HS.out).mono ?_
  rintro e w1 ⟨i, k1, kd, k2, k3, q, ok, rfl, hk, hbk, y1⟩
  have y2 := ext_alloc w1 (.cells #[.int .i64 i, .bool k1, .int .u8 kd, .bool k2, .bool k3, .int .i64 q] 97)
  have hbx := heap_alloc_new w1 (.cells #[.int .i64 i, .bool k1, .int .u8 kd, .bool k2, .bool k3, .int .i64 q] 97)
  have y := ext_trans y1 y2
  have HK := Lib.hid hk
  have HB := Lib.hid hbk
  obtain ⟨a0, a1, a2, a3, a4, a5⟩ := box_ky hbx
  clear hk hbk hbx
  cases ok with
  | false =>
    have HE : Hid (stepP l set key b = ([], 4)) := Lib.hid (by
      have h1 := HB.out
      unfold stepP
      cases hq : findK l key with
      | none => rfl
      | some k => rw [hq] at h1; cases h1)
    go_wp2_with (fail)
    refine bodyPost_ret (v := .tuple #[.slice none 0 0, .int .i64 4]) (by simp [results, Tryz.results144, go_sem]) rfl ?_
    exact ⟨[], 4, none, 0, rfl, fun _ => HE.out.symm, by simp, Ow.nil _ _, y⟩
  | true =>
    have HF : Hid (findK l key = some ⟨i, k1, kd, k2, k3, q⟩) := Lib.hid (by
      have h1 := HB.out
      have h2 := HK.out
      cases hq : findK l key with
      | none => rw [hq] at h1; cases h1
      | some k => rw [hq] at h2; simp only [Option.getD_some] at h2; rw [h2])
    by_cases hkd : kd = 2
    rotate_left
    · have hkb : (kd == 2) = false := beq_eq_false_iff_ne.2 hkd
      have hkb2 : (kd != 2) = true := by rw [bne_iff_ne]; exact hkd
      have HE : Hid (stepP l set key b = ([], 4)) := Lib.hid (by unfold stepP; rw [HF.out]; simp only; rw [if_pos hkd])
      clear hkd
      go_wp2_with (fail)
      refine bodyPost_ret (v := .tuple #[.slice none 0 0, .int .i64 4]) (by simp [results, Tryz.results144, go_sem]) rfl ?_
      exact ⟨[], 4, none, 0, rfl, fun _ => HE.out.symm, by simp, Ow.nil _ _, y⟩
    subst hkd
    cases k1 with
    | false =>
      have HE : Hid (stepP l set key b = ([], 7)) := Lib.hid (by unfold stepP; rw [HF.out]; simp)
      go_wp2_with (fail)
      refine bodyPost_ret (v := .tuple #[.slice none 0 0, .int .i64 7]) (by simp [results, Tryz.results144, go_sem]) rfl ?_
      exact ⟨[], 7, none, 0, rfl, fun _ => HE.out.symm, by simp, Ow.nil _ _, y⟩
    | true =>
    have ST : Hid (riseA set = true → stepP l set key b = if applyP (stepQ l key (stepN set key b)) set = set then ([], 0) else (stepQ l key (stepN set key b), 0)) := Lib.hid (fun _ => by unfold stepP; rw [HF.out]; simp)
    clear HF
    go_wp2_with (go_at_call 193; refine Hid.out ?_)
    refine Lib.hid ?_
    refine (get_any A n c set key _ N.out (h.ext y) (by omega)).mono ?_
    rintro e w3 ⟨⟨v1, v2, v3, v4⟩, has, rfl, hget, y4⟩
    have y5 := ext_alloc w3 (.cells #[.int .u8 v1, .int .i64 v2, .int .u64 v3, .string v4] 41)
    have hbv := heap_alloc_new w3 (.cells #[.int .u8 v1, .int .i64 v2, .int .u64 v3, .string v4] 41)
    obtain ⟨f0, f1, f2, f3⟩ := box_v hbv
    have y6 := ext_trans y (ext_trans y4 y5)
    obtain ⟨n0, hn0⟩ : ∃ n0 : Int, n0 = if has = true then (if v1 = 2 then v2 else 0) else 0 := ⟨_, rfl⟩
    have HG : Hid (riseA set = true → (match getA set key with | some v => if v.k = 2 then v.n else 0 | none => 0) = n0) := Lib.hid (fun hr => by
      have h1 := hget.2.2 hr
      rw [h1, hn0]
      cases has <;> rfl)
    have N0 := Lib.hid hn0
    clear hget hbv a0 a1 a2 a3 a4 a5 y1 y2 y4 y5 hn0 y
    have hcase : (has = true ∧ v1 = 2) ∨ (has = true ∧ ¬ v1 = 2) ∨ has = false := by cases has <;> simp; exact Decidable.em _
    obtain ⟨wv, hwv⟩ : ∃ wv, wv = w3.alloc (.cells #[.int .u8 v1, .int .i64 v2, .int .u64 v3, .string v4] 41) := ⟨_, rfl⟩
    have ye := ext_alloc (w3.alloc (.cells #[.int .u8 v1, .int .i64 v2, .int .u64 v3, .string v4] 41)) (.cells #[.int .i64 key, .bool true, .int .u8 0, .int .i64 0, .int .u64 0, .string ⟨#[]⟩] 77)
    have y7 := ext_trans y6 ye
    have r7 : RdCh _ _ _ [goneK key] := rd_one_at (enc := Ch.enc) (size := 6) (w3.alloc (.cells #[.int .u8 v1, .int .i64 v2, .int .u64 v3, .string v4] 41)) 77 (goneK key) (cs := #[.int .i64 key, .bool true, .int .u8 0, .int .i64 0, .int .u64 0, .string ⟨#[]⟩]) rfl (b := w3.heap.size + 1) (by simp)
    have o7 := ow_one (w3.alloc (.cells #[.int .u8 v1, .int .i64 v2, .int .u64 v3, .string v4] 41)) (goneK key) w.heap.size #[.int .i64 key, .bool true, .int .u8 0, .int .i64 0, .int .u64 0, .string ⟨#[]⟩] rfl y6.size (w3.heap.size + 1) (by simp)
    have R7 := Lib.hid (r7.more (by simp : _ ≤ ((w3.alloc (.cells #[.int .u8 v1, .int .i64 v2, .int .u64 v3, .string v4] 41)).alloc (.cells #[.int .i64 key, .bool true, .int .u8 0, .int .i64 0, .int .u64 0, .string ⟨#[]⟩] 77)).heap.size))
    have O7 := Lib.hid o7
    clear r7 o7 hwv
    rcases hcase with ⟨h1, h2⟩ | ⟨h1, h2⟩ | h1
    · subst h1 h2
      obtain rfl : n0 = v2 := by rw [N0.out]; simp
      clear N0
      go_wp2_with (go_at_call 194; refine Hid.out ?_)
      refine Lib.hid ?_
      refine (hold_any n0 0 8 _ (by omega)).mono ?_
      rintro e w' ⟨x, rfl, hx, hx0, hx8, rfl⟩
      clear f0 f1 f2 f3
      go_wp2_with (go_at_call 194; refine Hid.out ?_)
      refine Lib.hid ?_
      refine (hold_any b (-8) 8 _ (by omega)).mono ?_
      rintro e w' ⟨z, rfl, hz, hz0, hz8, rfl⟩
      go_wp2_with (go_at_call 194; refine Hid.out ?_)
      refine Lib.hid ?_
      refine (hold_any (x + z) 0 8 _ (by omega)).mono ?_
      rintro e w' ⟨nn, rfl, hn, hn0, hn8, rfl⟩
      have SN : Hid (riseA set = true → stepN set key b = nn) := Lib.hid (fun hr => by unfold stepN; rw [HG.out hr, ← hx.out, ← hz.out, ← hn.out])
      clear HG hx hz hn
      by_cases hnz : nn = 0
      · subst hnz
        obtain ⟨q, hq⟩ : ∃ q, q = [goneK key] := ⟨_, rfl⟩
        have QE : Hid (riseA set = true → stepQ l key (stepN set key b) = q) := Lib.hid (fun hr => by rw [SN.out hr, hq]; rfl)
        have RSQ : Hid (riseC q = true) := Lib.hid (by rw [hq]; rfl)
        have LQ : Hid (q.length ≤ 65) := Lib.hid (by rw [hq]; simp)
        have NQ : Hid (1 = q.length) := Lib.hid (by rw [hq]; rfl)
        rw [← hq] at R7 O7
        clear hq SN
        go_wp2_with (go_at_call 93; refine Hid.out ?_)
        refine Lib.hid ?_
        refine (apply_any A _ n 1 c 1 set q _ N.out NQ.out (h.ext y7) R7.out (by omega) (by omega) C1.out C2.out).mono ?_
        rintro e w7 ⟨A7, c7, rfl, ho7, yx⟩
        have R7 := Lib.hid (ho7.rd At.enc_len)
        have HOQ := Lib.hid (O7.out.below yx (Nat.le_refl _))
        have y8 := ext_trans y7 yx
        have hl7 : Hid (riseA set = true → (applyP q set).length ≤ 2000000) := Lib.hid (fun hr => by have := apply_len RSQ.out hr; have := NQ.out; have := LQ.out; have := N.out; omega)
        obtain ⟨P, hP⟩ : ∃ X, applyP q set = X := ⟨_, rfl⟩
        have hlP : P.length ≤ 140737488355328 := by rw [← hP]; exact Nat.le_trans (apply_len_any q set) (by have := NQ.out; have := LQ.out; have := N.out; omega)
        rw [hP] at R7 ⊢
        have HP := Lib.hid hP
        clear hP ho7
        go_wp2_with (go_at_call 141; refine Hid.out ?_)
        refine Lib.hid ?_
        refine (attrsSame_any A7 A P.length n c7 c P set w7 rfl N.out R7.out (h.ext y8) hlP (by omega)).mono ?_
        rintro e w8 ⟨rfl, d, rfl⟩
        obtain ⟨B, hB⟩ : ∃ X, decide (P = set) = X := ⟨_, rfl⟩
        rw [hB]
        have HBB := Lib.hid hB
        clear hB
        cases B with
        | true =>
          go_wp2_with (fail)
          refine bodyPost_ret (v := .tuple #[.slice none 0 0, .int .i64 0]) (by simp [results, Tryz.results144, go_sem]) rfl ?_
          refine ⟨[], 0, none, 0, rfl, fun hr => ?_, by simp, Ow.nil _ _, below_drewN y8 _⟩
          rw [ST.out hr, QE.out hr, HP.out, if_pos (of_decide_eq_true HBB.out)]
        | false =>
          go_wp2_with (fail)
          refine bodyPost_ret (v := .tuple #[.slice (some ⟨w3.heap.size + 1, 0, none⟩) 1 1, .int .i64 0]) (by simp [results, Tryz.results144, go_sem]) rfl ?_
          refine ⟨q, 0, _, 1, by rw [NQ.out], fun hr => ?_, LQ.out, by rw [← NQ.out]; exact HOQ.out.drewN _, below_drewN y8 _⟩
          rw [ST.out hr, QE.out hr, HP.out, if_neg (of_decide_eq_false HBB.out)]
      · have hnb : (nn == 0) = false := beq_eq_false_iff_ne.2 hnz
        have hnb2 : (nn != 0) = true := by rw [bne_iff_ne]; exact hnz
        have yf := ext_alloc ((w3.alloc (.cells #[.int .u8 2, .int .i64 n0, .int .u64 v3, .string v4] 41)).alloc (.cells #[.int .i64 key, .bool true, .int .u8 0, .int .i64 0, .int .u64 0, .string ⟨#[]⟩] 77)) (.cells #[.int .i64 key, .bool false, .int .u8 2, .int .i64 nn, .int .u64 0, .string ⟨#[]⟩] 77)
        have r8 : RdCh _ _ _ [⟨key, false, ⟨2, nn, 0, ⟨#[]⟩⟩⟩] := rd_one_at (enc := Ch.enc) (size := 6) ((w3.alloc (.cells #[.int .u8 2, .int .i64 n0, .int .u64 v3, .string v4] 41)).alloc (.cells #[.int .i64 key, .bool true, .int .u8 0, .int .i64 0, .int .u64 0, .string ⟨#[]⟩] 77)) 77 ⟨key, false, ⟨2, nn, 0, ⟨#[]⟩⟩⟩ (cs := #[.int .i64 key, .bool false, .int .u8 2, .int .i64 nn, .int .u64 0, .string ⟨#[]⟩]) rfl (b := w3.heap.size + 1 + 1) (by simp)
        have R8 := Lib.hid (r8.more (by simp : _ ≤ (((w3.alloc (.cells #[.int .u8 2, .int .i64 n0, .int .u64 v3, .string v4] 41)).alloc (.cells #[.int .i64 key, .bool true, .int .u8 0, .int .i64 0, .int .u64 0, .string ⟨#[]⟩] 77)).alloc (.cells #[.int .i64 key, .bool false, .int .u8 2, .int .i64 nn, .int .u64 0, .string ⟨#[]⟩] 77)).heap.size))
        have y8 := ext_trans y7 yf
        clear hnz r8
        go_wp2_with (go_at_call 136; refine Hid.out ?_)
        refine Lib.hid ?_
        refine (complete_any s l _ 1 1 [⟨key, false, ⟨2, nn, 0, ⟨#[]⟩⟩⟩] _ rfl R8.out (by omega) (HS.out.ext y8) hl).mono ?_
        rintro e w6 ⟨q, er, Aq, cq, rfl, hcq, hlq, hoq, y9⟩
        obtain ⟨rfl, rfl⟩ : er = 0 ∧ q = completeP l [⟨key, false, ⟨2, nn, 0, ⟨#[]⟩⟩⟩] := by
          rcases hcq rfl with ⟨h1, _⟩ | ⟨_, h1, h2⟩
          · rw [conf_one] at h1; cases h1
          · exact ⟨h1, h2⟩
        have QE0 : Hid (riseA set = true → stepQ l key (stepN set key b) = completeP l [⟨key, false, ⟨2, nn, 0, ⟨#[]⟩⟩⟩]) := Lib.hid (fun hr => by rw [SN.out hr]; unfold stepQ; rw [if_neg (by simpa using hnb)])
        have RSQ0 := Lib.hid (completeP_rise (l := l) (one_rise ⟨key, false, ⟨2, nn, 0, ⟨#[]⟩⟩⟩))
        obtain ⟨q, hq⟩ : ∃ X, completeP l [⟨key, false, ⟨2, nn, 0, ⟨#[]⟩⟩⟩] = X := ⟨_, rfl⟩
        rw [hq] at QE0 RSQ0 hlq hoq ⊢
        have QE := QE0
        have RSQ := RSQ0
        have LQ : Hid (q.length ≤ 65) := Lib.hid hlq
        obtain ⟨nq, hnq⟩ : ∃ nq, nq = q.length := ⟨_, rfl⟩
        rw [← hnq] at hoq ⊢
        have NQ := Lib.hid hnq
        have O7 := Lib.hid (hoq.base_le (B := w.heap.size) y8.size)
        have R7 := Lib.hid (hoq.rd Ch.enc_len)
        have y7 := ext_trans y8 y9
        clear hq hnq hcq hlq hoq SN QE0 RSQ0 y8 y9 hnb hnb2
        go_wp2_with (go_at_call 93; refine Hid.out ?_)
        refine Lib.hid ?_
        refine (apply_any A Aq n nq c cq set q _ N.out NQ.out (h.ext y7) R7.out (by omega) (by have := NQ.out; have := LQ.out; omega) C1.out C2.out).mono ?_
        rintro e w7 ⟨A7, c7, rfl, ho7, yx⟩
        have R7 := Lib.hid (ho7.rd At.enc_len)
        have HOQ := Lib.hid (O7.out.below yx (Nat.le_refl _))
        have y8 := ext_trans y7 yx
        have hl7 : Hid (riseA set = true → (applyP q set).length ≤ 2000000) := Lib.hid (fun hr => by have := apply_len RSQ.out hr; have := NQ.out; have := LQ.out; have := N.out; omega)
        obtain ⟨P, hP⟩ : ∃ X, applyP q set = X := ⟨_, rfl⟩
        have hlP : P.length ≤ 140737488355328 := by rw [← hP]; exact Nat.le_trans (apply_len_any q set) (by have := NQ.out; have := LQ.out; have := N.out; omega)
        rw [hP] at R7 ⊢
        have HP := Lib.hid hP
        clear hP ho7
        go_wp2_with (go_at_call 141; refine Hid.out ?_)
        refine Lib.hid ?_
        refine (attrsSame_any A7 A P.length n c7 c P set w7 rfl N.out R7.out (h.ext y8) hlP (by omega)).mono ?_
        rintro e w8 ⟨rfl, d, rfl⟩
        obtain ⟨B, hB⟩ : ∃ X, decide (P = set) = X := ⟨_, rfl⟩
        rw [hB]
        have HBB := Lib.hid hB
        clear hB
        cases B with
        | true =>
          go_wp2_with (fail)
          refine bodyPost_ret (v := .tuple #[.slice none 0 0, .int .i64 0]) (by simp [results, Tryz.results144, go_sem]) rfl ?_
          refine ⟨[], 0, none, 0, rfl, fun hr => ?_, by simp, Ow.nil _ _, below_drewN y8 _⟩
          rw [ST.out hr, QE.out hr, HP.out, if_pos (of_decide_eq_true HBB.out)]
        | false =>
          go_wp2_with (fail)
          refine bodyPost_ret (v := .tuple #[.slice Aq nq cq, .int .i64 0]) (by simp [results, Tryz.results144, go_sem]) rfl ?_
          refine ⟨q, 0, Aq, cq, by rw [NQ.out], fun hr => ?_, LQ.out, by rw [← NQ.out]; exact HOQ.out.drewN _, below_drewN y8 _⟩
          rw [ST.out hr, QE.out hr, HP.out, if_neg (of_decide_eq_false HBB.out)]
    · subst h1
      obtain rfl : n0 = 0 := by rw [N0.out]; simp [h2]
      have hvb : (v1 == 2) = false := beq_eq_false_iff_ne.2 h2
      clear N0 h2
      go_wp2_with (go_at_call 194; refine Hid.out ?_)
      refine Lib.hid ?_
      refine (hold_any 0 0 8 _ (by omega)).mono ?_
      rintro e w' ⟨x, rfl, hx, hx0, hx8, rfl⟩
      clear f0 f1 f2 f3
      go_wp2_with (go_at_call 194; refine Hid.out ?_)
      refine Lib.hid ?_
      refine (hold_any b (-8) 8 _ (by omega)).mono ?_
      rintro e w' ⟨z, rfl, hz, hz0, hz8, rfl⟩
      go_wp2_with (go_at_call 194; refine Hid.out ?_)
      refine Lib.hid ?_
      refine (hold_any (x + z) 0 8 _ (by omega)).mono ?_
      rintro e w' ⟨nn, rfl, hn, hn0, hn8, rfl⟩
      have SN : Hid (riseA set = true → stepN set key b = nn) := Lib.hid (fun hr => by unfold stepN; rw [HG.out hr, ← hx.out, ← hz.out, ← hn.out])
      clear HG hx hz hn
      by_cases hnz : nn = 0
      · subst hnz
        obtain ⟨q, hq⟩ : ∃ q, q = [goneK key] := ⟨_, rfl⟩
        have QE : Hid (riseA set = true → stepQ l key (stepN set key b) = q) := Lib.hid (fun hr => by rw [SN.out hr, hq]; rfl)
        have RSQ : Hid (riseC q = true) := Lib.hid (by rw [hq]; rfl)
        have LQ : Hid (q.length ≤ 65) := Lib.hid (by rw [hq]; simp)
        have NQ : Hid (1 = q.length) := Lib.hid (by rw [hq]; rfl)
        rw [← hq] at R7 O7
        clear hq SN
        go_wp2_with (go_at_call 93; refine Hid.out ?_)
        refine Lib.hid ?_
        refine (apply_any A _ n 1 c 1 set q _ N.out NQ.out (h.ext y7) R7.out (by omega) (by omega) C1.out C2.out).mono ?_
        rintro e w7 ⟨A7, c7, rfl, ho7, yx⟩
        have R7 := Lib.hid (ho7.rd At.enc_len)
        have HOQ := Lib.hid (O7.out.below yx (Nat.le_refl _))
        have y8 := ext_trans y7 yx
        have hl7 : Hid (riseA set = true → (applyP q set).length ≤ 2000000) := Lib.hid (fun hr => by have := apply_len RSQ.out hr; have := NQ.out; have := LQ.out; have := N.out; omega)
        obtain ⟨P, hP⟩ : ∃ X, applyP q set = X := ⟨_, rfl⟩
        have hlP : P.length ≤ 140737488355328 := by rw [← hP]; exact Nat.le_trans (apply_len_any q set) (by have := NQ.out; have := LQ.out; have := N.out; omega)
        rw [hP] at R7 ⊢
        have HP := Lib.hid hP
        clear hP ho7
        go_wp2_with (go_at_call 141; refine Hid.out ?_)
        refine Lib.hid ?_
        refine (attrsSame_any A7 A P.length n c7 c P set w7 rfl N.out R7.out (h.ext y8) hlP (by omega)).mono ?_
        rintro e w8 ⟨rfl, d, rfl⟩
        obtain ⟨B, hB⟩ : ∃ X, decide (P = set) = X := ⟨_, rfl⟩
        rw [hB]
        have HBB := Lib.hid hB
        clear hB
        cases B with
        | true =>
          go_wp2_with (fail)
          refine bodyPost_ret (v := .tuple #[.slice none 0 0, .int .i64 0]) (by simp [results, Tryz.results144, go_sem]) rfl ?_
          refine ⟨[], 0, none, 0, rfl, fun hr => ?_, by simp, Ow.nil _ _, below_drewN y8 _⟩
          rw [ST.out hr, QE.out hr, HP.out, if_pos (of_decide_eq_true HBB.out)]
        | false =>
          go_wp2_with (fail)
          refine bodyPost_ret (v := .tuple #[.slice (some ⟨w3.heap.size + 1, 0, none⟩) 1 1, .int .i64 0]) (by simp [results, Tryz.results144, go_sem]) rfl ?_
          refine ⟨q, 0, _, 1, by rw [NQ.out], fun hr => ?_, LQ.out, by rw [← NQ.out]; exact HOQ.out.drewN _, below_drewN y8 _⟩
          rw [ST.out hr, QE.out hr, HP.out, if_neg (of_decide_eq_false HBB.out)]
      · have hnb : (nn == 0) = false := beq_eq_false_iff_ne.2 hnz
        have hnb2 : (nn != 0) = true := by rw [bne_iff_ne]; exact hnz
        have yf := ext_alloc ((w3.alloc (.cells #[.int .u8 v1, .int .i64 v2, .int .u64 v3, .string v4] 41)).alloc (.cells #[.int .i64 key, .bool true, .int .u8 0, .int .i64 0, .int .u64 0, .string ⟨#[]⟩] 77)) (.cells #[.int .i64 key, .bool false, .int .u8 2, .int .i64 nn, .int .u64 0, .string ⟨#[]⟩] 77)
        have r8 : RdCh _ _ _ [⟨key, false, ⟨2, nn, 0, ⟨#[]⟩⟩⟩] := rd_one_at (enc := Ch.enc) (size := 6) ((w3.alloc (.cells #[.int .u8 v1, .int .i64 v2, .int .u64 v3, .string v4] 41)).alloc (.cells #[.int .i64 key, .bool true, .int .u8 0, .int .i64 0, .int .u64 0, .string ⟨#[]⟩] 77)) 77 ⟨key, false, ⟨2, nn, 0, ⟨#[]⟩⟩⟩ (cs := #[.int .i64 key, .bool false, .int .u8 2, .int .i64 nn, .int .u64 0, .string ⟨#[]⟩]) rfl (b := w3.heap.size + 1 + 1) (by simp)
        have R8 := Lib.hid (r8.more (by simp : _ ≤ (((w3.alloc (.cells #[.int .u8 v1, .int .i64 v2, .int .u64 v3, .string v4] 41)).alloc (.cells #[.int .i64 key, .bool true, .int .u8 0, .int .i64 0, .int .u64 0, .string ⟨#[]⟩] 77)).alloc (.cells #[.int .i64 key, .bool false, .int .u8 2, .int .i64 nn, .int .u64 0, .string ⟨#[]⟩] 77)).heap.size))
        have y8 := ext_trans y7 yf
        clear hnz r8
        go_wp2_with (go_at_call 136; refine Hid.out ?_)
        refine Lib.hid ?_
        refine (complete_any s l _ 1 1 [⟨key, false, ⟨2, nn, 0, ⟨#[]⟩⟩⟩] _ rfl R8.out (by omega) (HS.out.ext y8) hl).mono ?_
        rintro e w6 ⟨q, er, Aq, cq, rfl, hcq, hlq, hoq, y9⟩
        obtain ⟨rfl, rfl⟩ : er = 0 ∧ q = completeP l [⟨key, false, ⟨2, nn, 0, ⟨#[]⟩⟩⟩] := by
          rcases hcq rfl with ⟨h1, _⟩ | ⟨_, h1, h2⟩
          · rw [conf_one] at h1; cases h1
          · exact ⟨h1, h2⟩
        have QE0 : Hid (riseA set = true → stepQ l key (stepN set key b) = completeP l [⟨key, false, ⟨2, nn, 0, ⟨#[]⟩⟩⟩]) := Lib.hid (fun hr => by rw [SN.out hr]; unfold stepQ; rw [if_neg (by simpa using hnb)])
        have RSQ0 := Lib.hid (completeP_rise (l := l) (one_rise ⟨key, false, ⟨2, nn, 0, ⟨#[]⟩⟩⟩))
        obtain ⟨q, hq⟩ : ∃ X, completeP l [⟨key, false, ⟨2, nn, 0, ⟨#[]⟩⟩⟩] = X := ⟨_, rfl⟩
        rw [hq] at QE0 RSQ0 hlq hoq ⊢
        have QE := QE0
        have RSQ := RSQ0
        have LQ : Hid (q.length ≤ 65) := Lib.hid hlq
        obtain ⟨nq, hnq⟩ : ∃ nq, nq = q.length := ⟨_, rfl⟩
        rw [← hnq] at hoq ⊢
        have NQ := Lib.hid hnq
        have O7 := Lib.hid (hoq.base_le (B := w.heap.size) y8.size)
        have R7 := Lib.hid (hoq.rd Ch.enc_len)
        have y7 := ext_trans y8 y9
        clear hq hnq hcq hlq hoq SN QE0 RSQ0 y8 y9 hnb hnb2
        go_wp2_with (go_at_call 93; refine Hid.out ?_)
        refine Lib.hid ?_
        refine (apply_any A Aq n nq c cq set q _ N.out NQ.out (h.ext y7) R7.out (by omega) (by have := NQ.out; have := LQ.out; omega) C1.out C2.out).mono ?_
        rintro e w7 ⟨A7, c7, rfl, ho7, yx⟩
        have R7 := Lib.hid (ho7.rd At.enc_len)
        have HOQ := Lib.hid (O7.out.below yx (Nat.le_refl _))
        have y8 := ext_trans y7 yx
        have hl7 : Hid (riseA set = true → (applyP q set).length ≤ 2000000) := Lib.hid (fun hr => by have := apply_len RSQ.out hr; have := NQ.out; have := LQ.out; have := N.out; omega)
        obtain ⟨P, hP⟩ : ∃ X, applyP q set = X := ⟨_, rfl⟩
        have hlP : P.length ≤ 140737488355328 := by rw [← hP]; exact Nat.le_trans (apply_len_any q set) (by have := NQ.out; have := LQ.out; have := N.out; omega)
        rw [hP] at R7 ⊢
        have HP := Lib.hid hP
        clear hP ho7
        go_wp2_with (go_at_call 141; refine Hid.out ?_)
        refine Lib.hid ?_
        refine (attrsSame_any A7 A P.length n c7 c P set w7 rfl N.out R7.out (h.ext y8) hlP (by omega)).mono ?_
        rintro e w8 ⟨rfl, d, rfl⟩
        obtain ⟨B, hB⟩ : ∃ X, decide (P = set) = X := ⟨_, rfl⟩
        rw [hB]
        have HBB := Lib.hid hB
        clear hB
        cases B with
        | true =>
          go_wp2_with (fail)
          refine bodyPost_ret (v := .tuple #[.slice none 0 0, .int .i64 0]) (by simp [results, Tryz.results144, go_sem]) rfl ?_
          refine ⟨[], 0, none, 0, rfl, fun hr => ?_, by simp, Ow.nil _ _, below_drewN y8 _⟩
          rw [ST.out hr, QE.out hr, HP.out, if_pos (of_decide_eq_true HBB.out)]
        | false =>
          go_wp2_with (fail)
          refine bodyPost_ret (v := .tuple #[.slice Aq nq cq, .int .i64 0]) (by simp [results, Tryz.results144, go_sem]) rfl ?_
          refine ⟨q, 0, Aq, cq, by rw [NQ.out], fun hr => ?_, LQ.out, by rw [← NQ.out]; exact HOQ.out.drewN _, below_drewN y8 _⟩
          rw [ST.out hr, QE.out hr, HP.out, if_neg (of_decide_eq_false HBB.out)]
    · subst h1
      obtain rfl : n0 = 0 := by rw [N0.out]; simp
      clear N0
      go_wp2_with (go_at_call 194; refine Hid.out ?_)
      refine Lib.hid ?_
      refine (hold_any 0 0 8 _ (by omega)).mono ?_
      rintro e w' ⟨x, rfl, hx, hx0, hx8, rfl⟩
      clear f0 f1 f2 f3
      go_wp2_with (go_at_call 194; refine Hid.out ?_)
      refine Lib.hid ?_
      refine (hold_any b (-8) 8 _ (by omega)).mono ?_
      rintro e w' ⟨z, rfl, hz, hz0, hz8, rfl⟩
      go_wp2_with (go_at_call 194; refine Hid.out ?_)
      refine Lib.hid ?_
      refine (hold_any (x + z) 0 8 _ (by omega)).mono ?_
      rintro e w' ⟨nn, rfl, hn, hn0, hn8, rfl⟩
      have SN : Hid (riseA set = true → stepN set key b = nn) := Lib.hid (fun hr => by unfold stepN; rw [HG.out hr, ← hx.out, ← hz.out, ← hn.out])
      clear HG hx hz hn
      by_cases hnz : nn = 0
      · subst hnz
        obtain ⟨q, hq⟩ : ∃ q, q = [goneK key] := ⟨_, rfl⟩
        have QE : Hid (riseA set = true → stepQ l key (stepN set key b) = q) := Lib.hid (fun hr => by rw [SN.out hr, hq]; rfl)
        have RSQ : Hid (riseC q = true) := Lib.hid (by rw [hq]; rfl)
        have LQ : Hid (q.length ≤ 65) := Lib.hid (by rw [hq]; simp)
        have NQ : Hid (1 = q.length) := Lib.hid (by rw [hq]; rfl)
        rw [← hq] at R7 O7
        clear hq SN
        go_wp2_with (go_at_call 93; refine Hid.out ?_)
        refine Lib.hid ?_
        refine (apply_any A _ n 1 c 1 set q _ N.out NQ.out (h.ext y7) R7.out (by omega) (by omega) C1.out C2.out).mono ?_
        rintro e w7 ⟨A7, c7, rfl, ho7, yx⟩
        have R7 := Lib.hid (ho7.rd At.enc_len)
        have HOQ := Lib.hid (O7.out.below yx (Nat.le_refl _))
        have y8 := ext_trans y7 yx
        have hl7 : Hid (riseA set = true → (applyP q set).length ≤ 2000000) := Lib.hid (fun hr => by have := apply_len RSQ.out hr; have := NQ.out; have := LQ.out; have := N.out; omega)
        obtain ⟨P, hP⟩ : ∃ X, applyP q set = X := ⟨_, rfl⟩
        have hlP : P.length ≤ 140737488355328 := by rw [← hP]; exact Nat.le_trans (apply_len_any q set) (by have := NQ.out; have := LQ.out; have := N.out; omega)
        rw [hP] at R7 ⊢
        have HP := Lib.hid hP
        clear hP ho7
        go_wp2_with (go_at_call 141; refine Hid.out ?_)
        refine Lib.hid ?_
        refine (attrsSame_any A7 A P.length n c7 c P set w7 rfl N.out R7.out (h.ext y8) hlP (by omega)).mono ?_
        rintro e w8 ⟨rfl, d, rfl⟩
        obtain ⟨B, hB⟩ : ∃ X, decide (P = set) = X := ⟨_, rfl⟩
        rw [hB]
        have HBB := Lib.hid hB
        clear hB
        cases B with
        | true =>
          go_wp2_with (fail)
          refine bodyPost_ret (v := .tuple #[.slice none 0 0, .int .i64 0]) (by simp [results, Tryz.results144, go_sem]) rfl ?_
          refine ⟨[], 0, none, 0, rfl, fun hr => ?_, by simp, Ow.nil _ _, below_drewN y8 _⟩
          rw [ST.out hr, QE.out hr, HP.out, if_pos (of_decide_eq_true HBB.out)]
        | false =>
          go_wp2_with (fail)
          refine bodyPost_ret (v := .tuple #[.slice (some ⟨w3.heap.size + 1, 0, none⟩) 1 1, .int .i64 0]) (by simp [results, Tryz.results144, go_sem]) rfl ?_
          refine ⟨q, 0, _, 1, by rw [NQ.out], fun hr => ?_, LQ.out, by rw [← NQ.out]; exact HOQ.out.drewN _, below_drewN y8 _⟩
          rw [ST.out hr, QE.out hr, HP.out, if_neg (of_decide_eq_false HBB.out)]
      · have hnb : (nn == 0) = false := beq_eq_false_iff_ne.2 hnz
        have hnb2 : (nn != 0) = true := by rw [bne_iff_ne]; exact hnz
        have yf := ext_alloc ((w3.alloc (.cells #[.int .u8 v1, .int .i64 v2, .int .u64 v3, .string v4] 41)).alloc (.cells #[.int .i64 key, .bool true, .int .u8 0, .int .i64 0, .int .u64 0, .string ⟨#[]⟩] 77)) (.cells #[.int .i64 key, .bool false, .int .u8 2, .int .i64 nn, .int .u64 0, .string ⟨#[]⟩] 77)
        have r8 : RdCh _ _ _ [⟨key, false, ⟨2, nn, 0, ⟨#[]⟩⟩⟩] := rd_one_at (enc := Ch.enc) (size := 6) ((w3.alloc (.cells #[.int .u8 v1, .int .i64 v2, .int .u64 v3, .string v4] 41)).alloc (.cells #[.int .i64 key, .bool true, .int .u8 0, .int .i64 0, .int .u64 0, .string ⟨#[]⟩] 77)) 77 ⟨key, false, ⟨2, nn, 0, ⟨#[]⟩⟩⟩ (cs := #[.int .i64 key, .bool false, .int .u8 2, .int .i64 nn, .int .u64 0, .string ⟨#[]⟩]) rfl (b := w3.heap.size + 1 + 1) (by simp)
        have R8 := Lib.hid (r8.more (by simp : _ ≤ (((w3.alloc (.cells #[.int .u8 v1, .int .i64 v2, .int .u64 v3, .string v4] 41)).alloc (.cells #[.int .i64 key, .bool true, .int .u8 0, .int .i64 0, .int .u64 0, .string ⟨#[]⟩] 77)).alloc (.cells #[.int .i64 key, .bool false, .int .u8 2, .int .i64 nn, .int .u64 0, .string ⟨#[]⟩] 77)).heap.size))
        have y8 := ext_trans y7 yf
        clear hnz r8
        go_wp2_with (go_at_call 136; refine Hid.out ?_)
        refine Lib.hid ?_
        refine (complete_any s l _ 1 1 [⟨key, false, ⟨2, nn, 0, ⟨#[]⟩⟩⟩] _ rfl R8.out (by omega) (HS.out.ext y8) hl).mono ?_
        rintro e w6 ⟨q, er, Aq, cq, rfl, hcq, hlq, hoq, y9⟩
        obtain ⟨rfl, rfl⟩ : er = 0 ∧ q = completeP l [⟨key, false, ⟨2, nn, 0, ⟨#[]⟩⟩⟩] := by
          rcases hcq rfl with ⟨h1, _⟩ | ⟨_, h1, h2⟩
          · rw [conf_one] at h1; cases h1
          · exact ⟨h1, h2⟩
        have QE0 : Hid (riseA set = true → stepQ l key (stepN set key b) = completeP l [⟨key, false, ⟨2, nn, 0, ⟨#[]⟩⟩⟩]) := Lib.hid (fun hr => by rw [SN.out hr]; unfold stepQ; rw [if_neg (by simpa using hnb)])
        have RSQ0 := Lib.hid (completeP_rise (l := l) (one_rise ⟨key, false, ⟨2, nn, 0, ⟨#[]⟩⟩⟩))
        obtain ⟨q, hq⟩ : ∃ X, completeP l [⟨key, false, ⟨2, nn, 0, ⟨#[]⟩⟩⟩] = X := ⟨_, rfl⟩
        rw [hq] at QE0 RSQ0 hlq hoq ⊢
        have QE := QE0
        have RSQ := RSQ0
        have LQ : Hid (q.length ≤ 65) := Lib.hid hlq
        obtain ⟨nq, hnq⟩ : ∃ nq, nq = q.length := ⟨_, rfl⟩
        rw [← hnq] at hoq ⊢
        have NQ := Lib.hid hnq
        have O7 := Lib.hid (hoq.base_le (B := w.heap.size) y8.size)
        have R7 := Lib.hid (hoq.rd Ch.enc_len)
        have y7 := ext_trans y8 y9
        clear hq hnq hcq hlq hoq SN QE0 RSQ0 y8 y9 hnb hnb2
        go_wp2_with (go_at_call 93; refine Hid.out ?_)
        refine Lib.hid ?_
        refine (apply_any A Aq n nq c cq set q _ N.out NQ.out (h.ext y7) R7.out (by omega) (by have := NQ.out; have := LQ.out; omega) C1.out C2.out).mono ?_
        rintro e w7 ⟨A7, c7, rfl, ho7, yx⟩
        have R7 := Lib.hid (ho7.rd At.enc_len)
        have HOQ := Lib.hid (O7.out.below yx (Nat.le_refl _))
        have y8 := ext_trans y7 yx
        have hl7 : Hid (riseA set = true → (applyP q set).length ≤ 2000000) := Lib.hid (fun hr => by have := apply_len RSQ.out hr; have := NQ.out; have := LQ.out; have := N.out; omega)
        obtain ⟨P, hP⟩ : ∃ X, applyP q set = X := ⟨_, rfl⟩
        have hlP : P.length ≤ 140737488355328 := by rw [← hP]; exact Nat.le_trans (apply_len_any q set) (by have := NQ.out; have := LQ.out; have := N.out; omega)
        rw [hP] at R7 ⊢
        have HP := Lib.hid hP
        clear hP ho7
        go_wp2_with (go_at_call 141; refine Hid.out ?_)
        refine Lib.hid ?_
        refine (attrsSame_any A7 A P.length n c7 c P set w7 rfl N.out R7.out (h.ext y8) hlP (by omega)).mono ?_
        rintro e w8 ⟨rfl, d, rfl⟩
        obtain ⟨B, hB⟩ : ∃ X, decide (P = set) = X := ⟨_, rfl⟩
        rw [hB]
        have HBB := Lib.hid hB
        clear hB
        cases B with
        | true =>
          go_wp2_with (fail)
          refine bodyPost_ret (v := .tuple #[.slice none 0 0, .int .i64 0]) (by simp [results, Tryz.results144, go_sem]) rfl ?_
          refine ⟨[], 0, none, 0, rfl, fun hr => ?_, by simp, Ow.nil _ _, below_drewN y8 _⟩
          rw [ST.out hr, QE.out hr, HP.out, if_pos (of_decide_eq_true HBB.out)]
        | false =>
          go_wp2_with (fail)
          refine bodyPost_ret (v := .tuple #[.slice Aq nq cq, .int .i64 0]) (by simp [results, Tryz.results144, go_sem]) rfl ?_
          refine ⟨q, 0, Aq, cq, by rw [NQ.out], fun hr => ?_, LQ.out, by rw [← NQ.out]; exact HOQ.out.drewN _, below_drewN y8 _⟩
          rw [ST.out hr, QE.out hr, HP.out, if_neg (of_decide_eq_false HBB.out)]

theorem mayP0 {l : List Ky} {p : List Ch} (h : mayP l p = 0) : p.length ≤ 64 ∧ riseC p = true ∧ p.all okC = true ∧ p.all (thereC l) = true := by
  unfold mayP at h
  by_cases h1 : 64 < p.length
  · rw [if_pos h1] at h; cases h
  · rw [if_neg h1] at h
    by_cases h2 : riseC p = true ∧ p.all okC = true
    · rw [if_pos h2] at h
      by_cases h3 : p.all (thereC l) = true
      · exact ⟨by omega, h2.1, h2.2, h3⟩
      · rw [if_neg h3] at h; cases h
    · rw [if_neg h2] at h; cases h
theorem mayP_mk {l : List Ky} {p : List Ch} (h0 : p.length ≤ 64) (h1 : riseC p = true) (h2 : ∀ c ∈ p, okC c = true) (h3 : ∀ c ∈ p, thereC l c = true) : mayP l p = 0 := by
  unfold mayP
  rw [if_neg (by omega), if_pos ⟨h1, List.all_eq_true.2 h2⟩, if_pos (List.all_eq_true.2 h3)]
theorem findK_mem {l : List Ky} {k : Ky} (h : k ∈ l) : (findK l k.id).isSome = true := by
  unfold findK
  rw [List.find?_isSome]
  exact ⟨k, h, by simp⟩
theorem group_there {l : List Ky} {id k : Int} (h : k ∈ groupL l id) : (findK l k).isSome = true := by
  unfold groupL at h
  cases hf : findK l id with
  | none => rw [hf] at h; simp at h
  | some x =>
    rw [hf] at h
    simp only at h
    split at h
    · simp at h
    · unfold othersL at h
      obtain ⟨o, ho, rfl⟩ := List.mem_map.1 h
      exact findK_mem (List.mem_filter.1 ho).1
theorem compl_mem {l : List Ky} {p : List Ch} (hp : riseC p = true) {c : Ch} (hc : c ∈ completeP l p) : c ∈ p ∨ (c = goneK c.key ∧ (findK l c.key).isSome = true) := by
  have h1 := lk_of_mem Ch.key (riseC_srt.1 (completeP_rise (l := l) hp)) hc
  rw [completeP_lk hp] at h1
  unfold complLk at h1
  cases hl : lk Ch.key p c.key with
  | some d => rw [hl] at h1; injection h1 with h1; subst h1; exact .inl (lk_mem Ch.key hl)
  | none =>
    rw [hl, Option.none_or] at h1
    split at h1
    · rename_i hm
      injection h1 with h1
      obtain ⟨d, _, _, hg⟩ := mem_othersOf.1 hm
      exact .inr ⟨h1.symm, group_there hg⟩
    · cases h1
theorem keys_lenC2 {l : List Ky} {p : List Ch} (hp : riseC p = true) (h : ∀ c ∈ p, thereC l c = true) : p.length ≤ l.length := by
  have h2 : (p.map (·.key)).Pairwise (· < ·) := List.pairwise_map.2 (riseC_srt.1 hp)
  have h3 := keys_len (l := l) h2 (fun k hk => by
    obtain ⟨c, hc, rfl⟩ := List.mem_map.1 hk
    have := h c hc
    unfold thereC at this
    exact (Bool.and_eq_true_iff.1 this).1)
  simpa using h3
theorem compl_there {l : List Ky} {p : List Ch} (h : mayP l p = 0) : ∀ c ∈ completeP l p, thereC l c = true := fun c hc => by
  obtain ⟨h1, h2, h3, h4⟩ := mayP0 h
  rcases compl_mem h2 hc with hm | ⟨e, ht⟩
  · exact List.all_eq_true.1 h4 c hm
  · rw [e]; unfold thereC; rw [show (goneK c.key).key = c.key from rfl, ht]; rfl
theorem compl_len {l : List Ky} {p : List Ch} (h : mayP l p = 0) : (completeP l p).length ≤ l.length :=
  keys_lenC2 (completeP_rise (mayP0 h).2.1) (compl_there h)
theorem compl_may {l : List Ky} {p : List Ch} (h : mayP l p = 0) (hl : l.length ≤ 64) : mayP l (completeP l p) = 0 := by
  obtain ⟨h1, h2, h3, h4⟩ := mayP0 h
  refine mayP_mk (by have := compl_len h; omega) (completeP_rise h2) (fun c hc => ?_) (compl_there h)
  rcases compl_mem h2 hc with hm | ⟨e, _⟩
  · exact List.all_eq_true.1 h3 c hm
  · rw [e]; unfold okC; rw [if_pos (show (goneK c.key).gone = true from rfl)]; exact beqV_eq rfl

def nlsF (d : List Cl) (i : Nat) : Nat → List Nat
  | 0 => []
  | k + 1 => nlsF d i k ++ (match d[i + k]? with | some c => if c.r = 10 then [i + k] else [] | none => [])
theorem nls_mem {d : List Cl} {i : Nat} : ∀ {k q : Nat}, q ∈ nlsF d i k → i ≤ q ∧ q < i + k ∧ ∃ c, d[q]? = some c ∧ c.r = 10
  | 0, q, h => by cases h
  | k + 1, q, h => by
    rcases List.mem_append.1 h with h | h
    · obtain ⟨h1, h2, h3⟩ := nls_mem h
      exact ⟨h1, by omega, h3⟩
    · cases hd : d[i + k]? with
      | none => rw [hd] at h; cases h
      | some c =>
        rw [hd] at h
        simp only at h
        split at h
        · rename_i hr
          rw [List.mem_singleton] at h
          subst h
          exact ⟨by omega, by omega, c, hd, hr⟩
        · cases h
theorem nls_len (d : List Cl) (i : Nat) : ∀ k, (nlsF d i k).length ≤ k
  | 0 => Nat.le_refl _
  | k + 1 => by
    have ih := nls_len d i k
    have e : nlsF d i (k + 1) = nlsF d i k ++ (match d[i + k]? with | some c => if c.r = 10 then [i + k] else [] | none => []) := rfl
    rw [e, List.length_append]
    split
    · split <;> simp <;> omega
    · simp; omega
def riseN : Nat → List Nat → Prop
  | _, [] => True
  | f, p :: t => f ≤ p ∧ riseN (p + 1) t
theorem riseN_snoc : ∀ {l : List Nat} {f q : Nat}, riseN f l → f ≤ q → (∀ p ∈ l, p < q) → riseN f (l ++ [q])
  | [], f, q, _, h, _ => ⟨h, trivial⟩
  | p :: t, f, q, hr, _, hl => ⟨hr.1, riseN_snoc hr.2 (hl p (by simp)) (fun x hx => hl x (List.mem_cons_of_mem _ hx))⟩
theorem nls_rise (d : List Cl) (i : Nat) : ∀ k, riseN i (nlsF d i k)
  | 0 => trivial
  | k + 1 => by
    have ih := nls_rise d i k
    have e : nlsF d i (k + 1) = nlsF d i k ++ (match d[i + k]? with | some c => if c.r = 10 then [i + k] else [] | none => []) := rfl
    rw [e]
    have hl : ∀ p ∈ nlsF d i k, p < i + k := fun p hp => (nls_mem hp).2.1
    split
    · split
      · exact riseN_snoc ih (by omega) hl
      · rw [List.append_nil]; exact ih
    · rw [List.append_nil]; exact ih
theorem linesU_takes (P : Nat → List Ch) : ∀ (l : List Nat) (k f n : Nat), riseN f l → (∀ p ∈ l, p < n) → f ≤ n → takesU (linesU P k f l) + f ≤ n ∧ makesU (linesU P k f l) = takesU (linesU P k f l)
  | [], k, f, n, _, _, h => ⟨by show 0 + f ≤ n; omega, rfl⟩
  | p :: t, k, f, n, hr, hl, h => by
    obtain ⟨h1, h2⟩ := linesU_takes P t (k + 1) (p + 1) n hr.2 (fun x hx => hl x (List.mem_cons_of_mem _ hx)) (by have := hl p (by simp); omega)
    have hp := hr.1
    rw [linesU, takes_ret, makes_ret, takesU_r, makesU_r, h2]
    omega
theorem linesU_vU {l0 : List Ky} {P : Nat → List Ch} (hP : ∀ k, mayP l0 (P k) = 0) : ∀ (l : List Nat) (k f : Nat), ∀ u ∈ linesU P k f l, vU l0 u
  | [], _, _ => fun u hu => by cases hu
  | p :: t, k, f => fun u hu => by
    rw [linesU] at hu
    rcases List.mem_append.1 hu with hu | hu
    · rw [(List.mem_replicate.1 hu).2]; exact mayP_nil l0
    · rcases List.mem_cons.1 hu with rfl | hu
      · exact hP k
      · exact linesU_vU hP t _ _ u hu
theorem linesU_ret {P : Nat → List Ch} : ∀ (l : List Nat) (k f : Nat), ∀ u ∈ linesU P k f l, ∃ q, u = .ret q
  | [], _, _ => fun u hu => by cases hu
  | p :: t, k, f => fun u hu => by
    rw [linesU] at hu
    rcases List.mem_append.1 hu with hu | hu
    · exact ⟨[], (List.mem_replicate.1 hu).2⟩
    · rcases List.mem_cons.1 hu with rfl | hu
      · exact ⟨_, rfl⟩
      · exact linesU_ret t _ _ u hu
theorem rets_at (l : List Ky) : ∀ (us : List Un) (d : List Cl), (∀ u ∈ us, ∃ q, u = .ret q) → takesU us ≤ d.length → (app l us d).length = d.length ∧ (app l us d).map (·.r) = d.map (·.r) ∧
    ∀ (i : Nat) (c : Cl), d[i]? = some c → (∀ q, us[i]? = some (.ret q) → partP l (c.r == 10) q = []) → (app l us d)[i]? = some c
  | [], d, _, _ => ⟨rfl, rfl, fun i c h _ => h⟩
  | u :: us, [], h, ht => by
    obtain ⟨q, rfl⟩ := h u (by simp)
    rw [takesU_r] at ht
    simp at ht
  | u :: us, c :: d, h, ht => by
    obtain ⟨q, rfl⟩ := h u (by simp)
    rw [takesU_r] at ht
    obtain ⟨h1, h2, h3⟩ := rets_at l us d (fun x hx => h x (List.mem_cons_of_mem _ hx)) (by simp at ht; omega)
    have e : app l (.ret q :: us) (c :: d) = actC l c q :: app l us d := rfl
    rw [e]
    refine ⟨by simp [h1], ?_, fun i x hx hq => ?_⟩
    · rw [List.map_cons, List.map_cons, h2]; rfl
    · cases i with
      | zero =>
        simp only [List.getElem?_cons_zero, Option.some.injEq] at hx hq ⊢
        subst hx
        have := hq q rfl
        unfold actC
        rw [this]
        cases c; rfl
      | succ i =>
        simp only [List.getElem?_cons_succ] at hx hq ⊢
        exact h3 i x hx hq
theorem rets_fit {l : List Ky} {us : List Un} {n : Nat} (h : ∀ u ∈ us, ∃ q, u = .ret q) (hv : ∀ u ∈ us, vU l u) (ht : takesU us ≤ n) (hm : makesU us = takesU us) (h1 : 1 ≤ n) (hb : n ≤ 536870912) : FitU l us n n := by
  have fin : ∀ (us : List Un) (a : Nat), (∀ u ∈ us, ∃ q, u = .ret q) → a + takesU us ≤ n → finU n a us = true := by
    intro us
    induction us with
    | nil => intro a _ _; rfl
    | cons u us ih =>
      intro a h ht
      obtain ⟨q, rfl⟩ := h u (by simp)
      rw [takesU_r] at ht
      exact ih (a + 1) (fun x hx => h x (List.mem_cons_of_mem _ hx)) (by omega)
  exact ⟨hv, ht, h1, Nat.le_refl _, fin us 0 h (by omega), by omega, by omega, by omega⟩

theorem stepQ_get {l : List Ky} {s : List At} {key n : Int} (hs : riseA s = true) : getA (applyP (stepQ l key n) s) key = if n = 0 then none else some ⟨2, n, 0, ⟨#[]⟩⟩ := by
  obtain ⟨h1, h2, _⟩ := apply_all (riseC_srt.1 (stepQ_rise l key n)) (riseA_srt.1 hs)
  rw [getA_lk, h2 key]
  unfold stepQ
  by_cases hn : n = 0
  · rw [if_pos hn, if_pos hn, lk_cons, if_pos (show (goneK key).key = key from rfl)]; rfl
  · rw [if_neg hn, if_neg hn, completeP_lk (one_rise _)]
    unfold complLk
    rw [lk_cons, if_pos rfl]
    rfl
def GoodK (l : List Ky) (key : Int) : Prop := ∃ k, findK l key = some k ∧ k.kind = 2 ∧ k.block = true
theorem stepP_good {l : List Ky} {key b : Int} {s : List At} (h : GoodK l key) :
    stepP l s key b = (if applyP (stepQ l key (stepN s key b)) s = s then [] else stepQ l key (stepN s key b), 0) := by
  obtain ⟨k, h1, h2, h3⟩ := h
  unfold stepP
  rw [h1]
  simp only
  rw [if_neg (by simp [h2]), if_neg (by simp [h3])]
  split <;> rfl
theorem step_now {l : List Ky} {key b : Int} {s : List At} (h : GoodK l key) : applyP (stepP l s key b).1 s = applyP (stepQ l key (stepN s key b)) s := by
  rw [stepP_good h]
  show applyP (if applyP (stepQ l key (stepN s key b)) s = s then [] else stepQ l key (stepN s key b)) s = _
  split
  · rename_i hh; rw [hh]; rfl
  · rfl
theorem stepN_range (s : List At) (key b : Int) : 0 ≤ stepN s key b ∧ stepN s key b ≤ 8 := by
  unfold stepN; exact holdI_lo (by omega)
theorem holdI_id {n : Int} (h0 : 0 ≤ n) (h8 : n ≤ 8) : holdI n 0 8 = n := by unfold holdI; rw [if_neg (by omega), if_neg (by omega)]
end Go.Proofs.YtfnkjcodcoehcaaGreatDoor
