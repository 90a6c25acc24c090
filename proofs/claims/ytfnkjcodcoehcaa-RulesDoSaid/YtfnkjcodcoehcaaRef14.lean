/- The walks of rubricref14.Complete, Typed, hold, Step. -/
import Derived.Test.YtfnkjcodcoehcaaRef14C
import Derived.Test.YtfnkjcodcoehcaaRef14T
import Derived.Test.YtfnkjcodcoehcaaRef06W
namespace Go.Proofs.Ytfnkjcodcoehcaa
open Go.RowKit
set_option linter.unusedVariables false
set_option linter.unusedSimpArgs false
set_option maxHeartbeats 400000 in
theorem hold14_any (n lo hi : Int) (w : World) (h : lo ≤ hi) :
    Calls Try.prog 44 #[.int .i64 n, .int .i64 lo, .int .i64 hi] w fun e w' => ∃ x, e = .returned (.int .i64 x) ∧ Hid (x = holdI n lo hi) ∧ lo ≤ x ∧ x ≤ hi ∧ w = w' := by
  obtain ⟨h1, h2⟩ := holdI_lo (n := n) h
  by_cases c1 : n < lo
  · have c2 : holdI n lo hi = lo := by unfold holdI; rw [if_pos c1]
    have H2 := Lib.hid c2
    clear h1 h2 c2
    go_enter Try.func44, Try.ntmps44
    go_wp2_with (fail)
    go_ret
    exact ⟨lo, ret_int (by omega), Lib.hid H2.out.symm, by omega, by omega, rfl⟩
  by_cases c3 : hi < n
  · have c2 : holdI n lo hi = hi := by unfold holdI; rw [if_neg c1, if_pos c3]
    have H2 := Lib.hid c2
    clear h1 h2 c2
    go_enter Try.func44, Try.ntmps44
    go_wp2_with (fail)
    go_ret
    exact ⟨hi, ret_int (by omega), Lib.hid H2.out.symm, by omega, by omega, rfl⟩
  have c2 : holdI n lo hi = n := by unfold holdI; rw [if_neg c1, if_neg c3]
  have H2 := Lib.hid c2
  clear h1 h2 c2
  go_enter Try.func44, Try.ntmps44
  go_wp2_with (fail)
  go_ret
  exact ⟨n, ret_int (by omega), Lib.hid H2.out.symm, by omega, by omega, rfl⟩

def stepV (s : List At) (key : Int) : Int := match getA s key with | some v => if v.k = 2 then v.n else 0 | none => 0
theorem split14S_any (A_k : Option Addr) (n_k c_k : Nat) (l_k : List Ky) (A : Option Addr) (n c : Nat) (l : List At) (w : World) (hn : n = l.length) (h : RdAt w w.heap.size A l) (hb : n ≤ 100000000) (hnk : n_k = l_k.length) (r_k : RdKy w w.heap.size A_k l_k) (hbk : n_k ≤ 140737488355328) :
    Calls Try.prog 18 #[.slice A_k n_k c_k, .slice A n c] w (NewAt (siftP l_k splitK l) w) := by
  have e : (l.filter (fun a => match findK l_k a.key with | some k => splitQ k | none => false)) = siftP l_k splitK l := by
    unfold siftP
    refine List.filter_congr fun a _ => ?_
    cases findK l_k a.key <;> rfl
  have hh := split14_any A_k n_k c_k l_k A n c l w hn h hb hnk r_k hbk
  refine hh.mono fun e' w' hw => ?_
  have e2 : ∀ X : List At, NewAt X w e' w' → X = siftP l_k splitK l → NewAt (siftP l_k splitK l) w e' w' := fun X hX hE => hE ▸ hX
  refine e2 _ hw ?_
  unfold siftP
  refine List.filter_congr fun a _ => ?_
  cases findK l_k a.key <;> rfl
theorem stepN_is (s : List At) (key b : Int) : stepN s key b = holdI (holdI (stepV s key) 0 8 + holdI b (-8) 8) 0 8 := by
  unfold stepN stepV
  cases getA s key <;> rfl
/-- what rubricref14.Step answers -/
def StepOut14 (l : List Ky) (s : List At) (key b : Int) (w : World) (e : Ending) (w' : World) : Prop :=
  ∃ (r : List Ch) (er : Int) (A : Option Addr) (c : Nat), e = .returned (.tuple #[.slice A r.length c, .int .i64 er]) ∧ (r, er) = stepP l s key b ∧ r.length ≤ 1001 ∧ OwCh w' w.heap.size (.slice A r.length c) r ∧ Below w.heap.size w w'

set_option maxRecDepth 100000 in
set_option maxHeartbeats 4000000 in
theorem step14_any (A_k : Option Addr) (n_k c_k : Nat) (l : List Ky) (A : Option Addr) (n c : Nat) (set : List At) (key b : Int) (w : World) (hnk : n_k = l.length) (r_k : RdKy w w.heap.size A_k l) (hbk : n_k ≤ 140737488355328) (hn : n = set.length) (h : RdAt w w.heap.size A set) (hb : n ≤ 100000) (hm : mayKs l = true) (hrs : riseA set = true) :
    Calls Try.prog 15 #[.slice A_k n_k c_k, .slice A n c, .int .i64 key, .int .i64 b] w (StepOut14 l set key b w) := by
  have N := Lib.hid hn
  have N_k := Lib.hid hnk
  have HM := Lib.hid hm
  have RS := Lib.hid hrs
  clear hn hnk hm hrs
  go_enter Try.func15, Try.ntmps15
  go_wp2_with (go_at_call 42; refine Hid.out ?_)
  refine Lib.hid ?_
  refine (findR_any A_k n_k c_k l key w N_k.out r_k (by omega)).mono ?_
  rintro e w1 ⟨i, k1, kd, k2, k3, q, ok, rfl, hk, hbk, y1⟩
  have y2 := ext_alloc w1 (.cells #[.int .i64 i, .bool k1, .int .u8 kd, .bool k2, .bool k3, .int .i64 q] 53)
  have hbx := heap_alloc_new w1 (.cells #[.int .i64 i, .bool k1, .int .u8 kd, .bool k2, .bool k3, .int .i64 q] 53)
  have y := ext_trans y1 y2
  have HK := Lib.hid hk
  have HB := Lib.hid hbk
  obtain ⟨a0, a1, a2, a3, a4, a5⟩ := box_ky hbx
  clear hk hbk hbx
  cases ok with
  | false =>
    have HE : Hid (stepP l set key b = ([], 4)) := Lib.hid (by
      have h1 := HB.out
      unfold stepP
      cases hq : findK l key with
      | none => rfl
      | some k => rw [hq] at h1; cases h1)
    go_wp2_with (fail)
    refine bodyPost_ret (v := .tuple #[.slice none 0 0, .int .i64 4]) (by simp [results, Try.results15, go_sem]) rfl ?_
    exact ⟨[], 4, none, 0, rfl, HE.out.symm, by simp, Ow.nil _ _, y⟩
  | true =>
    have HF : Hid (findK l key = some ⟨i, k1, kd, k2, k3, q⟩) := Lib.hid (by
      have h1 := HB.out
      have h2 := HK.out
      cases hq : findK l key with
      | none => rw [hq] at h1; cases h1
      | some k => rw [hq] at h2; simp only [Option.getD_some] at h2; rw [h2])
    by_cases hkd : kd = 2
    rotate_left
    · have hkb : (kd == 2) = false := beq_eq_false_iff_ne.2 hkd
      have hkb2 : (kd != 2) = true := by rw [bne_iff_ne]; exact hkd
      have HE : Hid (stepP l set key b = ([], 4)) := Lib.hid (by unfold stepP; rw [HF.out]; simp only; rw [if_pos hkd])
      clear hkd
      go_wp2_with (fail)
      refine bodyPost_ret (v := .tuple #[.slice none 0 0, .int .i64 4]) (by simp [results, Try.results15, go_sem]) rfl ?_
      exact ⟨[], 4, none, 0, rfl, HE.out.symm, by simp, Ow.nil _ _, y⟩
    subst hkd
    cases k1 with
    | false =>
      have HE : Hid (stepP l set key b = ([], 7)) := Lib.hid (by unfold stepP; rw [HF.out]; simp)
      go_wp2_with (fail)
      refine bodyPost_ret (v := .tuple #[.slice none 0 0, .int .i64 7]) (by simp [results, Try.results15, go_sem]) rfl ?_
      exact ⟨[], 7, none, 0, rfl, HE.out.symm, by simp, Ow.nil _ _, y⟩
    | true =>
    have ST : Hid (riseA set = true → stepP l set key b = if applyP (stepQ l key (stepN set key b)) set = set then ([], 0) else (stepQ l key (stepN set key b), 0)) := Lib.hid (fun _ => by unfold stepP; rw [HF.out]; simp)
    clear HF
    go_wp2_with (go_at_call 43; refine Hid.out ?_)
    refine Lib.hid ?_
    refine (get05_any A n c set key _ N.out (h.ext y) (by omega)).mono ?_
    rintro e w3 ⟨v1, v2, v3, v4, has, rfl, hget, hgs, y4⟩
    have y5 := ext_alloc w3 (.cells #[.int .u8 v1, .int .i64 v2, .int .u64 v3, .string v4] 47)
    have hbv := heap_alloc_new w3 (.cells #[.int .u8 v1, .int .i64 v2, .int .u64 v3, .string v4] 47)
    obtain ⟨f0, f1, f2, f3⟩ := box_v hbv
    have y6 := ext_trans y (ext_trans y4 y5)
    obtain ⟨n0, hn0⟩ : ∃ n0 : Int, n0 = if has = true then (if v1 = 2 then v2 else 0) else 0 := ⟨_, rfl⟩
    have HG : Hid (riseA set = true → stepV set key = n0) := Lib.hid (fun hr => by
      unfold stepV
      rw [hn0]
      cases hq : getA set key with
      | none => rw [hq] at hgs; simp only [Option.isSome_none] at hgs; subst hgs; rfl
      | some v => rw [hq] at hgs hget; simp only [Option.isSome_some, Option.getD_some] at hgs hget; subst hgs hget; rfl)
    have N0 := Lib.hid hn0
    clear hget hgs hbv a0 a1 a2 a3 a4 a5 y1 y2 y4 y5 hn0 y
    have hcase : (has = true ∧ v1 = 2) ∨ (has = true ∧ ¬ v1 = 2) ∨ has = false := by cases has <;> simp; exact Decidable.em _
    obtain ⟨wv, hwv⟩ : ∃ wv, wv = w3.alloc (.cells #[.int .u8 v1, .int .i64 v2, .int .u64 v3, .string v4] 47) := ⟨_, rfl⟩
    have ye := ext_alloc (w3.alloc (.cells #[.int .u8 v1, .int .i64 v2, .int .u64 v3, .string v4] 47)) (.cells #[.int .i64 key, .bool true, .int .u8 0, .int .i64 0, .int .u64 0, .string ⟨#[]⟩] 49)
    have y7 := ext_trans y6 ye
    have r7 : RdCh _ _ _ [goneK key] := rd_one_at (enc := Ch.enc) (size := 6) (w3.alloc (.cells #[.int .u8 v1, .int .i64 v2, .int .u64 v3, .string v4] 47)) 49 (goneK key) (cs := #[.int .i64 key, .bool true, .int .u8 0, .int .i64 0, .int .u64 0, .string ⟨#[]⟩]) rfl (b := w3.heap.size + 1) (by simp)
    have o7 := ow_one (w3.alloc (.cells #[.int .u8 v1, .int .i64 v2, .int .u64 v3, .string v4] 47)) (goneK key) w.heap.size #[.int .i64 key, .bool true, .int .u8 0, .int .i64 0, .int .u64 0, .string ⟨#[]⟩] rfl y6.size (w3.heap.size + 1) (by simp)
    have R7 := Lib.hid (r7.more (by simp : _ ≤ ((w3.alloc (.cells #[.int .u8 v1, .int .i64 v2, .int .u64 v3, .string v4] 47)).alloc (.cells #[.int .i64 key, .bool true, .int .u8 0, .int .i64 0, .int .u64 0, .string ⟨#[]⟩] 49)).heap.size))
    have O7 := Lib.hid o7
    clear r7 o7 hwv
    rcases hcase with ⟨h1, h2⟩ | ⟨h1, h2⟩ | h1
    · subst h1 h2
      obtain rfl : n0 = v2 := by rw [N0.out]; simp
      clear N0
      go_wp2_with (go_at_call 44; refine Hid.out ?_)
      refine Lib.hid ?_
      refine (hold14_any n0 0 8 _ (by omega)).mono ?_
      rintro e w' ⟨x, rfl, hx, hx0, hx8, rfl⟩
      clear f0 f1 f2 f3
      go_wp2_with (go_at_call 44; refine Hid.out ?_)
      refine Lib.hid ?_
      refine (hold14_any b (-8) 8 _ (by omega)).mono ?_
      rintro e w' ⟨z, rfl, hz, hz0, hz8, rfl⟩
      go_wp2_with (go_at_call 44; refine Hid.out ?_)
      refine Lib.hid ?_
      refine (hold14_any (x + z) 0 8 _ (by omega)).mono ?_
      rintro e w' ⟨nn, rfl, hn, hn0, hn8, rfl⟩
      have SN : Hid (riseA set = true → stepN set key b = nn) := Lib.hid (fun hr => by rw [stepN_is, HG.out hr, ← hx.out, ← hz.out, ← hn.out])
      clear HG hx hz hn
      by_cases hnz : nn = 0
      · subst hnz
        obtain ⟨q, hq⟩ : ∃ q, q = [goneK key] := ⟨_, rfl⟩
        have QE : Hid (riseA set = true → stepQ l key (stepN set key b) = q) := Lib.hid (fun hr => by rw [SN.out hr, hq]; rfl)
        have RSQ : Hid (riseC q = true) := Lib.hid (by rw [hq]; rfl)
        have LQ : Hid (q.length ≤ 1001) := Lib.hid (by rw [hq]; simp)
        have NQ : Hid (1 = q.length) := Lib.hid (by rw [hq]; rfl)
        rw [← hq] at R7 O7
        clear hq SN
        go_wp2_with (go_at_call 45; refine Hid.out ?_)
        refine Lib.hid ?_
        refine (apply06_any A _ n c 1 1 set q _ N.out NQ.out (h.ext y7) R7.out (by omega) (by omega)).mono ?_
        rintro e w7 ⟨A7, c7, rfl, ho7, yx⟩
        rw [applyR_is RSQ.out RS.out] at ho7 ⊢
        have R7 := Lib.hid (ho7.rd At.enc_len)
        have HOQ := Lib.hid (O7.out.below yx (Nat.le_refl _))
        have y8 := ext_trans y7 yx
        have hl7 : Hid (riseA set = true → (applyP q set).length ≤ 2000000) := Lib.hid (fun hr => by have := apply_len RSQ.out hr; have := NQ.out; have := LQ.out; have := N.out; omega)
        obtain ⟨P, hP⟩ : ∃ X, applyP q set = X := ⟨_, rfl⟩
        have hlP : P.length ≤ 140737488355328 := by rw [← hP]; exact Nat.le_trans (apply_len_any q set) (by have := NQ.out; have := LQ.out; have := N.out; omega)
        rw [hP] at R7 ⊢
        have HP := Lib.hid hP
        clear hP ho7
        go_wp2_with (go_at_call 17; refine Hid.out ?_)
        refine Lib.hid ?_
        refine (sameA_any A7 A P.length n c7 c P set w7 rfl N.out R7.out (h.ext y8) hlP (by omega)).mono ?_
        rintro e w8 ⟨rfl, d, rfl⟩
        obtain ⟨B, hB⟩ : ∃ X, decide (P = set) = X := ⟨_, rfl⟩
        rw [hB]
        have HBB := Lib.hid hB
        clear hB
        cases B with
        | true =>
          go_wp2_with (fail)
          refine bodyPost_ret (v := .tuple #[.slice none 0 0, .int .i64 0]) (by simp [results, Try.results15, go_sem]) rfl ?_
          refine ⟨[], 0, none, 0, rfl, ?_, by simp, Ow.nil _ _, below_drewN y8 _⟩
          rw [ST.out RS.out, QE.out RS.out, HP.out, if_pos (of_decide_eq_true HBB.out)]
        | false =>
          go_wp2_with (fail)
          refine bodyPost_ret (v := .tuple #[.slice (some ⟨w3.heap.size + 1, 0, none⟩) 1 1, .int .i64 0]) (by simp [results, Try.results15, go_sem]) rfl ?_
          refine ⟨q, 0, _, 1, by rw [NQ.out], ?_, LQ.out, by rw [← NQ.out]; exact HOQ.out.drewN _, below_drewN y8 _⟩
          rw [ST.out RS.out, QE.out RS.out, HP.out, if_neg (of_decide_eq_false HBB.out)]
      · have hnb : (nn == 0) = false := beq_eq_false_iff_ne.2 hnz
        have hnb2 : (nn != 0) = true := by rw [bne_iff_ne]; exact hnz
        have yf := ext_alloc ((w3.alloc (.cells #[.int .u8 2, .int .i64 n0, .int .u64 v3, .string v4] 47)).alloc (.cells #[.int .i64 key, .bool true, .int .u8 0, .int .i64 0, .int .u64 0, .string ⟨#[]⟩] 49)) (.cells #[.int .i64 key, .bool false, .int .u8 2, .int .i64 nn, .int .u64 0, .string ⟨#[]⟩] 49)
        have r8 : RdCh _ _ _ [⟨key, false, ⟨2, nn, 0, ⟨#[]⟩⟩⟩] := rd_one_at (enc := Ch.enc) (size := 6) ((w3.alloc (.cells #[.int .u8 2, .int .i64 n0, .int .u64 v3, .string v4] 47)).alloc (.cells #[.int .i64 key, .bool true, .int .u8 0, .int .i64 0, .int .u64 0, .string ⟨#[]⟩] 49)) 49 ⟨key, false, ⟨2, nn, 0, ⟨#[]⟩⟩⟩ (cs := #[.int .i64 key, .bool false, .int .u8 2, .int .i64 nn, .int .u64 0, .string ⟨#[]⟩]) rfl (b := w3.heap.size + 1 + 1) (by simp)
        have R8 := Lib.hid (r8.more (by simp : _ ≤ (((w3.alloc (.cells #[.int .u8 2, .int .i64 n0, .int .u64 v3, .string v4] 47)).alloc (.cells #[.int .i64 key, .bool true, .int .u8 0, .int .i64 0, .int .u64 0, .string ⟨#[]⟩] 49)).alloc (.cells #[.int .i64 key, .bool false, .int .u8 2, .int .i64 nn, .int .u64 0, .string ⟨#[]⟩] 49)).heap.size))
        have y8 := ext_trans y7 yf
        clear hnz r8
        go_wp2_with (go_at_call 14; refine Hid.out ?_)
        refine Lib.hid ?_
        refine (compl14_any A_k n_k c_k l _ 1 1 [⟨key, false, ⟨2, nn, 0, ⟨#[]⟩⟩⟩] _ N_k.out (r_k.ext y8) (by omega) rfl R8.out (by omega) HM.out).mono ?_
        rintro e w6 ⟨q, er, Aq, cq, rfl, hcq, hlq, hoq, y9⟩
        obtain ⟨rfl, rfl⟩ : er = 0 ∧ q = completeP l [⟨key, false, ⟨2, nn, 0, ⟨#[]⟩⟩⟩] := by
          rcases hcq rfl with ⟨h1, _⟩ | ⟨_, h1, h2⟩
          · rw [conf_one] at h1; cases h1
          · exact ⟨h1, h2⟩
        have QE0 : Hid (riseA set = true → stepQ l key (stepN set key b) = completeP l [⟨key, false, ⟨2, nn, 0, ⟨#[]⟩⟩⟩]) := Lib.hid (fun hr => by rw [SN.out hr]; unfold stepQ; rw [if_neg (by simpa using hnb)])
        have RSQ0 := Lib.hid (completeP_rise (l := l) (one_rise ⟨key, false, ⟨2, nn, 0, ⟨#[]⟩⟩⟩))
        obtain ⟨q, hq⟩ : ∃ X, completeP l [⟨key, false, ⟨2, nn, 0, ⟨#[]⟩⟩⟩] = X := ⟨_, rfl⟩
        rw [hq] at QE0 RSQ0 hlq hoq ⊢
        have QE := QE0
        have RSQ := RSQ0
        have LQ : Hid (q.length ≤ 1001) := Lib.hid hlq
        obtain ⟨nq, hnq⟩ : ∃ nq, nq = q.length := ⟨_, rfl⟩
        rw [← hnq] at hoq ⊢
        have NQ := Lib.hid hnq
        have O7 := Lib.hid (hoq.base_le (B := w.heap.size) y8.size)
        have R7 := Lib.hid (hoq.rd Ch.enc_len)
        have y7 := ext_trans y8 y9
        clear hq hnq hcq hlq hoq SN QE0 RSQ0 y8 y9 hnb hnb2
        go_wp2_with (go_at_call 45; refine Hid.out ?_)
        refine Lib.hid ?_
        refine (apply06_any A Aq n c nq cq set q _ N.out NQ.out (h.ext y7) R7.out (by omega) (by have := NQ.out; have := LQ.out; omega)).mono ?_
        rintro e w7 ⟨A7, c7, rfl, ho7, yx⟩
        rw [applyR_is RSQ.out RS.out] at ho7 ⊢
        have R7 := Lib.hid (ho7.rd At.enc_len)
        have HOQ := Lib.hid (O7.out.below yx (Nat.le_refl _))
        have y8 := ext_trans y7 yx
        have hl7 : Hid (riseA set = true → (applyP q set).length ≤ 2000000) := Lib.hid (fun hr => by have := apply_len RSQ.out hr; have := NQ.out; have := LQ.out; have := N.out; omega)
        obtain ⟨P, hP⟩ : ∃ X, applyP q set = X := ⟨_, rfl⟩
        have hlP : P.length ≤ 140737488355328 := by rw [← hP]; exact Nat.le_trans (apply_len_any q set) (by have := NQ.out; have := LQ.out; have := N.out; omega)
        rw [hP] at R7 ⊢
        have HP := Lib.hid hP
        clear hP ho7
        go_wp2_with (go_at_call 17; refine Hid.out ?_)
        refine Lib.hid ?_
        refine (sameA_any A7 A P.length n c7 c P set w7 rfl N.out R7.out (h.ext y8) hlP (by omega)).mono ?_
        rintro e w8 ⟨rfl, d, rfl⟩
        obtain ⟨B, hB⟩ : ∃ X, decide (P = set) = X := ⟨_, rfl⟩
        rw [hB]
        have HBB := Lib.hid hB
        clear hB
        cases B with
        | true =>
          go_wp2_with (fail)
          refine bodyPost_ret (v := .tuple #[.slice none 0 0, .int .i64 0]) (by simp [results, Try.results15, go_sem]) rfl ?_
          refine ⟨[], 0, none, 0, rfl, ?_, by simp, Ow.nil _ _, below_drewN y8 _⟩
          rw [ST.out RS.out, QE.out RS.out, HP.out, if_pos (of_decide_eq_true HBB.out)]
        | false =>
          go_wp2_with (fail)
          refine bodyPost_ret (v := .tuple #[.slice Aq nq cq, .int .i64 0]) (by simp [results, Try.results15, go_sem]) rfl ?_
          refine ⟨q, 0, Aq, cq, by rw [NQ.out], ?_, LQ.out, by rw [← NQ.out]; exact HOQ.out.drewN _, below_drewN y8 _⟩
          rw [ST.out RS.out, QE.out RS.out, HP.out, if_neg (of_decide_eq_false HBB.out)]
    · subst h1
      obtain rfl : n0 = 0 := by rw [N0.out]; simp [h2]
      have hvb : (v1 == 2) = false := beq_eq_false_iff_ne.2 h2
      clear N0 h2
      go_wp2_with (go_at_call 44; refine Hid.out ?_)
      refine Lib.hid ?_
      refine (hold14_any 0 0 8 _ (by omega)).mono ?_
      rintro e w' ⟨x, rfl, hx, hx0, hx8, rfl⟩
      clear f0 f1 f2 f3
      go_wp2_with (go_at_call 44; refine Hid.out ?_)
      refine Lib.hid ?_
      refine (hold14_any b (-8) 8 _ (by omega)).mono ?_
      rintro e w' ⟨z, rfl, hz, hz0, hz8, rfl⟩
      go_wp2_with (go_at_call 44; refine Hid.out ?_)
      refine Lib.hid ?_
      refine (hold14_any (x + z) 0 8 _ (by omega)).mono ?_
      rintro e w' ⟨nn, rfl, hn, hn0, hn8, rfl⟩
      have SN : Hid (riseA set = true → stepN set key b = nn) := Lib.hid (fun hr => by rw [stepN_is, HG.out hr, ← hx.out, ← hz.out, ← hn.out])
      clear HG hx hz hn
      by_cases hnz : nn = 0
      · subst hnz
        obtain ⟨q, hq⟩ : ∃ q, q = [goneK key] := ⟨_, rfl⟩
        have QE : Hid (riseA set = true → stepQ l key (stepN set key b) = q) := Lib.hid (fun hr => by rw [SN.out hr, hq]; rfl)
        have RSQ : Hid (riseC q = true) := Lib.hid (by rw [hq]; rfl)
        have LQ : Hid (q.length ≤ 1001) := Lib.hid (by rw [hq]; simp)
        have NQ : Hid (1 = q.length) := Lib.hid (by rw [hq]; rfl)
        rw [← hq] at R7 O7
        clear hq SN
        go_wp2_with (go_at_call 45; refine Hid.out ?_)
        refine Lib.hid ?_
        refine (apply06_any A _ n c 1 1 set q _ N.out NQ.out (h.ext y7) R7.out (by omega) (by omega)).mono ?_
        rintro e w7 ⟨A7, c7, rfl, ho7, yx⟩
        rw [applyR_is RSQ.out RS.out] at ho7 ⊢
        have R7 := Lib.hid (ho7.rd At.enc_len)
        have HOQ := Lib.hid (O7.out.below yx (Nat.le_refl _))
        have y8 := ext_trans y7 yx
        have hl7 : Hid (riseA set = true → (applyP q set).length ≤ 2000000) := Lib.hid (fun hr => by have := apply_len RSQ.out hr; have := NQ.out; have := LQ.out; have := N.out; omega)
        obtain ⟨P, hP⟩ : ∃ X, applyP q set = X := ⟨_, rfl⟩
        have hlP : P.length ≤ 140737488355328 := by rw [← hP]; exact Nat.le_trans (apply_len_any q set) (by have := NQ.out; have := LQ.out; have := N.out; omega)
        rw [hP] at R7 ⊢
        have HP := Lib.hid hP
        clear hP ho7
        go_wp2_with (go_at_call 17; refine Hid.out ?_)
        refine Lib.hid ?_
        refine (sameA_any A7 A P.length n c7 c P set w7 rfl N.out R7.out (h.ext y8) hlP (by omega)).mono ?_
        rintro e w8 ⟨rfl, d, rfl⟩
        obtain ⟨B, hB⟩ : ∃ X, decide (P = set) = X := ⟨_, rfl⟩
        rw [hB]
        have HBB := Lib.hid hB
        clear hB
        cases B with
        | true =>
          go_wp2_with (fail)
          refine bodyPost_ret (v := .tuple #[.slice none 0 0, .int .i64 0]) (by simp [results, Try.results15, go_sem]) rfl ?_
          refine ⟨[], 0, none, 0, rfl, ?_, by simp, Ow.nil _ _, below_drewN y8 _⟩
          rw [ST.out RS.out, QE.out RS.out, HP.out, if_pos (of_decide_eq_true HBB.out)]
        | false =>
          go_wp2_with (fail)
          refine bodyPost_ret (v := .tuple #[.slice (some ⟨w3.heap.size + 1, 0, none⟩) 1 1, .int .i64 0]) (by simp [results, Try.results15, go_sem]) rfl ?_
          refine ⟨q, 0, _, 1, by rw [NQ.out], ?_, LQ.out, by rw [← NQ.out]; exact HOQ.out.drewN _, below_drewN y8 _⟩
          rw [ST.out RS.out, QE.out RS.out, HP.out, if_neg (of_decide_eq_false HBB.out)]
      · have hnb : (nn == 0) = false := beq_eq_false_iff_ne.2 hnz
        have hnb2 : (nn != 0) = true := by rw [bne_iff_ne]; exact hnz
        have yf := ext_alloc ((w3.alloc (.cells #[.int .u8 v1, .int .i64 v2, .int .u64 v3, .string v4] 47)).alloc (.cells #[.int .i64 key, .bool true, .int .u8 0, .int .i64 0, .int .u64 0, .string ⟨#[]⟩] 49)) (.cells #[.int .i64 key, .bool false, .int .u8 2, .int .i64 nn, .int .u64 0, .string ⟨#[]⟩] 49)
        have r8 : RdCh _ _ _ [⟨key, false, ⟨2, nn, 0, ⟨#[]⟩⟩⟩] := rd_one_at (enc := Ch.enc) (size := 6) ((w3.alloc (.cells #[.int .u8 v1, .int .i64 v2, .int .u64 v3, .string v4] 47)).alloc (.cells #[.int .i64 key, .bool true, .int .u8 0, .int .i64 0, .int .u64 0, .string ⟨#[]⟩] 49)) 49 ⟨key, false, ⟨2, nn, 0, ⟨#[]⟩⟩⟩ (cs := #[.int .i64 key, .bool false, .int .u8 2, .int .i64 nn, .int .u64 0, .string ⟨#[]⟩]) rfl (b := w3.heap.size + 1 + 1) (by simp)
        have R8 := Lib.hid (r8.more (by simp : _ ≤ (((w3.alloc (.cells #[.int .u8 v1, .int .i64 v2, .int .u64 v3, .string v4] 47)).alloc (.cells #[.int .i64 key, .bool true, .int .u8 0, .int .i64 0, .int .u64 0, .string ⟨#[]⟩] 49)).alloc (.cells #[.int .i64 key, .bool false, .int .u8 2, .int .i64 nn, .int .u64 0, .string ⟨#[]⟩] 49)).heap.size))
        have y8 := ext_trans y7 yf
        clear hnz r8
        go_wp2_with (go_at_call 14; refine Hid.out ?_)
        refine Lib.hid ?_
        refine (compl14_any A_k n_k c_k l _ 1 1 [⟨key, false, ⟨2, nn, 0, ⟨#[]⟩⟩⟩] _ N_k.out (r_k.ext y8) (by omega) rfl R8.out (by omega) HM.out).mono ?_
        rintro e w6 ⟨q, er, Aq, cq, rfl, hcq, hlq, hoq, y9⟩
        obtain ⟨rfl, rfl⟩ : er = 0 ∧ q = completeP l [⟨key, false, ⟨2, nn, 0, ⟨#[]⟩⟩⟩] := by
          rcases hcq rfl with ⟨h1, _⟩ | ⟨_, h1, h2⟩
          · rw [conf_one] at h1; cases h1
          · exact ⟨h1, h2⟩
        have QE0 : Hid (riseA set = true → stepQ l key (stepN set key b) = completeP l [⟨key, false, ⟨2, nn, 0, ⟨#[]⟩⟩⟩]) := Lib.hid (fun hr => by rw [SN.out hr]; unfold stepQ; rw [if_neg (by simpa using hnb)])
        have RSQ0 := Lib.hid (completeP_rise (l := l) (one_rise ⟨key, false, ⟨2, nn, 0, ⟨#[]⟩⟩⟩))
        obtain ⟨q, hq⟩ : ∃ X, completeP l [⟨key, false, ⟨2, nn, 0, ⟨#[]⟩⟩⟩] = X := ⟨_, rfl⟩
        rw [hq] at QE0 RSQ0 hlq hoq ⊢
        have QE := QE0
        have RSQ := RSQ0
        have LQ : Hid (q.length ≤ 1001) := Lib.hid hlq
        obtain ⟨nq, hnq⟩ : ∃ nq, nq = q.length := ⟨_, rfl⟩
        rw [← hnq] at hoq ⊢
        have NQ := Lib.hid hnq
        have O7 := Lib.hid (hoq.base_le (B := w.heap.size) y8.size)
        have R7 := Lib.hid (hoq.rd Ch.enc_len)
        have y7 := ext_trans y8 y9
        clear hq hnq hcq hlq hoq SN QE0 RSQ0 y8 y9 hnb hnb2
        go_wp2_with (go_at_call 45; refine Hid.out ?_)
        refine Lib.hid ?_
        refine (apply06_any A Aq n c nq cq set q _ N.out NQ.out (h.ext y7) R7.out (by omega) (by have := NQ.out; have := LQ.out; omega)).mono ?_
        rintro e w7 ⟨A7, c7, rfl, ho7, yx⟩
        rw [applyR_is RSQ.out RS.out] at ho7 ⊢
        have R7 := Lib.hid (ho7.rd At.enc_len)
        have HOQ := Lib.hid (O7.out.below yx (Nat.le_refl _))
        have y8 := ext_trans y7 yx
        have hl7 : Hid (riseA set = true → (applyP q set).length ≤ 2000000) := Lib.hid (fun hr => by have := apply_len RSQ.out hr; have := NQ.out; have := LQ.out; have := N.out; omega)
        obtain ⟨P, hP⟩ : ∃ X, applyP q set = X := ⟨_, rfl⟩
        have hlP : P.length ≤ 140737488355328 := by rw [← hP]; exact Nat.le_trans (apply_len_any q set) (by have := NQ.out; have := LQ.out; have := N.out; omega)
        rw [hP] at R7 ⊢
        have HP := Lib.hid hP
        clear hP ho7
        go_wp2_with (go_at_call 17; refine Hid.out ?_)
        refine Lib.hid ?_
        refine (sameA_any A7 A P.length n c7 c P set w7 rfl N.out R7.out (h.ext y8) hlP (by omega)).mono ?_
        rintro e w8 ⟨rfl, d, rfl⟩
        obtain ⟨B, hB⟩ : ∃ X, decide (P = set) = X := ⟨_, rfl⟩
        rw [hB]
        have HBB := Lib.hid hB
        clear hB
        cases B with
        | true =>
          go_wp2_with (fail)
          refine bodyPost_ret (v := .tuple #[.slice none 0 0, .int .i64 0]) (by simp [results, Try.results15, go_sem]) rfl ?_
          refine ⟨[], 0, none, 0, rfl, ?_, by simp, Ow.nil _ _, below_drewN y8 _⟩
          rw [ST.out RS.out, QE.out RS.out, HP.out, if_pos (of_decide_eq_true HBB.out)]
        | false =>
          go_wp2_with (fail)
          refine bodyPost_ret (v := .tuple #[.slice Aq nq cq, .int .i64 0]) (by simp [results, Try.results15, go_sem]) rfl ?_
          refine ⟨q, 0, Aq, cq, by rw [NQ.out], ?_, LQ.out, by rw [← NQ.out]; exact HOQ.out.drewN _, below_drewN y8 _⟩
          rw [ST.out RS.out, QE.out RS.out, HP.out, if_neg (of_decide_eq_false HBB.out)]
    · subst h1
      obtain rfl : n0 = 0 := by rw [N0.out]; simp
      clear N0
      go_wp2_with (go_at_call 44; refine Hid.out ?_)
      refine Lib.hid ?_
      refine (hold14_any 0 0 8 _ (by omega)).mono ?_
      rintro e w' ⟨x, rfl, hx, hx0, hx8, rfl⟩
      clear f0 f1 f2 f3
      go_wp2_with (go_at_call 44; refine Hid.out ?_)
      refine Lib.hid ?_
      refine (hold14_any b (-8) 8 _ (by omega)).mono ?_
      rintro e w' ⟨z, rfl, hz, hz0, hz8, rfl⟩
      go_wp2_with (go_at_call 44; refine Hid.out ?_)
      refine Lib.hid ?_
      refine (hold14_any (x + z) 0 8 _ (by omega)).mono ?_
      rintro e w' ⟨nn, rfl, hn, hn0, hn8, rfl⟩
      have SN : Hid (riseA set = true → stepN set key b = nn) := Lib.hid (fun hr => by rw [stepN_is, HG.out hr, ← hx.out, ← hz.out, ← hn.out])
      clear HG hx hz hn
      by_cases hnz : nn = 0
      · subst hnz
        obtain ⟨q, hq⟩ : ∃ q, q = [goneK key] := ⟨_, rfl⟩
        have QE : Hid (riseA set = true → stepQ l key (stepN set key b) = q) := Lib.hid (fun hr => by rw [SN.out hr, hq]; rfl)
        have RSQ : Hid (riseC q = true) := Lib.hid (by rw [hq]; rfl)
        have LQ : Hid (q.length ≤ 1001) := Lib.hid (by rw [hq]; simp)
        have NQ : Hid (1 = q.length) := Lib.hid (by rw [hq]; rfl)
        rw [← hq] at R7 O7
        clear hq SN
        go_wp2_with (go_at_call 45; refine Hid.out ?_)
        refine Lib.hid ?_
        refine (apply06_any A _ n c 1 1 set q _ N.out NQ.out (h.ext y7) R7.out (by omega) (by omega)).mono ?_
        rintro e w7 ⟨A7, c7, rfl, ho7, yx⟩
        rw [applyR_is RSQ.out RS.out] at ho7 ⊢
        have R7 := Lib.hid (ho7.rd At.enc_len)
        have HOQ := Lib.hid (O7.out.below yx (Nat.le_refl _))
        have y8 := ext_trans y7 yx
        have hl7 : Hid (riseA set = true → (applyP q set).length ≤ 2000000) := Lib.hid (fun hr => by have := apply_len RSQ.out hr; have := NQ.out; have := LQ.out; have := N.out; omega)
        obtain ⟨P, hP⟩ : ∃ X, applyP q set = X := ⟨_, rfl⟩
        have hlP : P.length ≤ 140737488355328 := by rw [← hP]; exact Nat.le_trans (apply_len_any q set) (by have := NQ.out; have := LQ.out; have := N.out; omega)
        rw [hP] at R7 ⊢
        have HP := Lib.hid hP
        clear hP ho7
        go_wp2_with (go_at_call 17; refine Hid.out ?_)
        refine Lib.hid ?_
        refine (sameA_any A7 A P.length n c7 c P set w7 rfl N.out R7.out (h.ext y8) hlP (by omega)).mono ?_
        rintro e w8 ⟨rfl, d, rfl⟩
        obtain ⟨B, hB⟩ : ∃ X, decide (P = set) = X := ⟨_, rfl⟩
        rw [hB]
        have HBB := Lib.hid hB
        clear hB
        cases B with
        | true =>
          go_wp2_with (fail)
          refine bodyPost_ret (v := .tuple #[.slice none 0 0, .int .i64 0]) (by simp [results, Try.results15, go_sem]) rfl ?_
          refine ⟨[], 0, none, 0, rfl, ?_, by simp, Ow.nil _ _, below_drewN y8 _⟩
          rw [ST.out RS.out, QE.out RS.out, HP.out, if_pos (of_decide_eq_true HBB.out)]
        | false =>
          go_wp2_with (fail)
          refine bodyPost_ret (v := .tuple #[.slice (some ⟨w3.heap.size + 1, 0, none⟩) 1 1, .int .i64 0]) (by simp [results, Try.results15, go_sem]) rfl ?_
          refine ⟨q, 0, _, 1, by rw [NQ.out], ?_, LQ.out, by rw [← NQ.out]; exact HOQ.out.drewN _, below_drewN y8 _⟩
          rw [ST.out RS.out, QE.out RS.out, HP.out, if_neg (of_decide_eq_false HBB.out)]
      · have hnb : (nn == 0) = false := beq_eq_false_iff_ne.2 hnz
        have hnb2 : (nn != 0) = true := by rw [bne_iff_ne]; exact hnz
        have yf := ext_alloc ((w3.alloc (.cells #[.int .u8 v1, .int .i64 v2, .int .u64 v3, .string v4] 47)).alloc (.cells #[.int .i64 key, .bool true, .int .u8 0, .int .i64 0, .int .u64 0, .string ⟨#[]⟩] 49)) (.cells #[.int .i64 key, .bool false, .int .u8 2, .int .i64 nn, .int .u64 0, .string ⟨#[]⟩] 49)
        have r8 : RdCh _ _ _ [⟨key, false, ⟨2, nn, 0, ⟨#[]⟩⟩⟩] := rd_one_at (enc := Ch.enc) (size := 6) ((w3.alloc (.cells #[.int .u8 v1, .int .i64 v2, .int .u64 v3, .string v4] 47)).alloc (.cells #[.int .i64 key, .bool true, .int .u8 0, .int .i64 0, .int .u64 0, .string ⟨#[]⟩] 49)) 49 ⟨key, false, ⟨2, nn, 0, ⟨#[]⟩⟩⟩ (cs := #[.int .i64 key, .bool false, .int .u8 2, .int .i64 nn, .int .u64 0, .string ⟨#[]⟩]) rfl (b := w3.heap.size + 1 + 1) (by simp)
        have R8 := Lib.hid (r8.more (by simp : _ ≤ (((w3.alloc (.cells #[.int .u8 v1, .int .i64 v2, .int .u64 v3, .string v4] 47)).alloc (.cells #[.int .i64 key, .bool true, .int .u8 0, .int .i64 0, .int .u64 0, .string ⟨#[]⟩] 49)).alloc (.cells #[.int .i64 key, .bool false, .int .u8 2, .int .i64 nn, .int .u64 0, .string ⟨#[]⟩] 49)).heap.size))
        have y8 := ext_trans y7 yf
        clear hnz r8
        go_wp2_with (go_at_call 14; refine Hid.out ?_)
        refine Lib.hid ?_
        refine (compl14_any A_k n_k c_k l _ 1 1 [⟨key, false, ⟨2, nn, 0, ⟨#[]⟩⟩⟩] _ N_k.out (r_k.ext y8) (by omega) rfl R8.out (by omega) HM.out).mono ?_
        rintro e w6 ⟨q, er, Aq, cq, rfl, hcq, hlq, hoq, y9⟩
        obtain ⟨rfl, rfl⟩ : er = 0 ∧ q = completeP l [⟨key, false, ⟨2, nn, 0, ⟨#[]⟩⟩⟩] := by
          rcases hcq rfl with ⟨h1, _⟩ | ⟨_, h1, h2⟩
          · rw [conf_one] at h1; cases h1
          · exact ⟨h1, h2⟩
        have QE0 : Hid (riseA set = true → stepQ l key (stepN set key b) = completeP l [⟨key, false, ⟨2, nn, 0, ⟨#[]⟩⟩⟩]) := Lib.hid (fun hr => by rw [SN.out hr]; unfold stepQ; rw [if_neg (by simpa using hnb)])
        have RSQ0 := Lib.hid (completeP_rise (l := l) (one_rise ⟨key, false, ⟨2, nn, 0, ⟨#[]⟩⟩⟩))
        obtain ⟨q, hq⟩ : ∃ X, completeP l [⟨key, false, ⟨2, nn, 0, ⟨#[]⟩⟩⟩] = X := ⟨_, rfl⟩
        rw [hq] at QE0 RSQ0 hlq hoq ⊢
        have QE := QE0
        have RSQ := RSQ0
        have LQ : Hid (q.length ≤ 1001) := Lib.hid hlq
        obtain ⟨nq, hnq⟩ : ∃ nq, nq = q.length := ⟨_, rfl⟩
        rw [← hnq] at hoq ⊢
        have NQ := Lib.hid hnq
        have O7 := Lib.hid (hoq.base_le (B := w.heap.size) y8.size)
        have R7 := Lib.hid (hoq.rd Ch.enc_len)
        have y7 := ext_trans y8 y9
        clear hq hnq hcq hlq hoq SN QE0 RSQ0 y8 y9 hnb hnb2
        go_wp2_with (go_at_call 45; refine Hid.out ?_)
        refine Lib.hid ?_
        refine (apply06_any A Aq n c nq cq set q _ N.out NQ.out (h.ext y7) R7.out (by omega) (by have := NQ.out; have := LQ.out; omega)).mono ?_
        rintro e w7 ⟨A7, c7, rfl, ho7, yx⟩
        rw [applyR_is RSQ.out RS.out] at ho7 ⊢
        have R7 := Lib.hid (ho7.rd At.enc_len)
        have HOQ := Lib.hid (O7.out.below yx (Nat.le_refl _))
        have y8 := ext_trans y7 yx
        have hl7 : Hid (riseA set = true → (applyP q set).length ≤ 2000000) := Lib.hid (fun hr => by have := apply_len RSQ.out hr; have := NQ.out; have := LQ.out; have := N.out; omega)
        obtain ⟨P, hP⟩ : ∃ X, applyP q set = X := ⟨_, rfl⟩
        have hlP : P.length ≤ 140737488355328 := by rw [← hP]; exact Nat.le_trans (apply_len_any q set) (by have := NQ.out; have := LQ.out; have := N.out; omega)
        rw [hP] at R7 ⊢
        have HP := Lib.hid hP
        clear hP ho7
        go_wp2_with (go_at_call 17; refine Hid.out ?_)
        refine Lib.hid ?_
        refine (sameA_any A7 A P.length n c7 c P set w7 rfl N.out R7.out (h.ext y8) hlP (by omega)).mono ?_
        rintro e w8 ⟨rfl, d, rfl⟩
        obtain ⟨B, hB⟩ : ∃ X, decide (P = set) = X := ⟨_, rfl⟩
        rw [hB]
        have HBB := Lib.hid hB
        clear hB
        cases B with
        | true =>
          go_wp2_with (fail)
          refine bodyPost_ret (v := .tuple #[.slice none 0 0, .int .i64 0]) (by simp [results, Try.results15, go_sem]) rfl ?_
          refine ⟨[], 0, none, 0, rfl, ?_, by simp, Ow.nil _ _, below_drewN y8 _⟩
          rw [ST.out RS.out, QE.out RS.out, HP.out, if_pos (of_decide_eq_true HBB.out)]
        | false =>
          go_wp2_with (fail)
          refine bodyPost_ret (v := .tuple #[.slice Aq nq cq, .int .i64 0]) (by simp [results, Try.results15, go_sem]) rfl ?_
          refine ⟨q, 0, Aq, cq, by rw [NQ.out], ?_, LQ.out, by rw [← NQ.out]; exact HOQ.out.drewN _, below_drewN y8 _⟩
          rw [ST.out RS.out, QE.out RS.out, HP.out, if_neg (of_decide_eq_false HBB.out)]
end Go.Proofs.Ytfnkjcodcoehcaa
