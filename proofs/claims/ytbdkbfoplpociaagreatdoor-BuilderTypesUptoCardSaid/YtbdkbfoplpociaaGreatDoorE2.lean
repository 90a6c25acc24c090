/- Merged texts: Known24, BuildLaw, TypeLaw, BuildT, BuildF. -/
import Derived.Test.YtbdkbfoplpociaaGreatDoorE1
import Derived.Test.YtbdkbfoplpociaaGreatDoorK30
import Derived.Test.YtbdkbfoplpociaaGreatDoorK31
import Derived.Test.YtbdkbfoplpociaaGreatDoorB3
import Derived.Test.YtbdkbfoplpociaaGreatDoorK33
import Derived.Test.YtbdkbfoplpociaaGreatDoorB4
import Derived.Test.YtbdkbfoplpociaaGreatDoorK19
import Derived.Test.YtbdkbfoplpociaaGreatDoorK16
import Derived.Test.YtbdkbfoplpociaaGreatDoorK29
import Derived.Test.YtbdkbfoplpociaaGreatDoorK28
import Derived.Test.YtbdkbfoplpociaaGreatDoorK26
import Derived.Test.YtbdkbfoplpociaaGreatDoorB6
import Derived.Test.YtbdkbfoplpociaaGreatDoorK13
import Derived.Test.YtbdkbfoplpociaaGreatDoorK21
import Derived.Test.YtbdkbfoplpociaaGreatDoorK20
namespace Go.Proofs.YtbdkbfoplpociaaGreatDoor
open Go.RowKit
set_option linter.unusedVariables false
set_option linter.unusedSimpArgs false

def xR24  : List OpS := [⟨opR 2 [], none, 0, none, 0, none, 0⟩, ⟨opD 3, none, 0, none, 0, none, 0⟩]
def chK (k : Int) : Ch := ⟨k, true, V.zero⟩
def cx24 (a b : Nat) : List CX := [⟨some ⟨a, 0, none⟩, 1, [chK 1]⟩, ⟨some ⟨b, 0, none⟩, 1, [chK 2]⟩]
theorem r24_made : mkU (goneU 2 3) = osOf xR24 := by kernel_rfl
theorem l24_made (a b : Nat) : (mkU (linesU (atX (cx24 a b)) 0 0 [3, 7])).length = 4 := by kernel_rfl
theorem okch (k : Int) : okVs [chK k] := fun c hc => by
  rw [List.mem_singleton] at hc; subst hc
  exact ⟨by unfold okV chK V.zero; simp, Nat.zero_le _⟩

set_option maxRecDepth 100000 in
set_option maxHeartbeats 3200000 in
theorem known24_any (w : World) (hT : Lib.Utf8Tabs 1 2 w) :
    Calls Tryz.prog 73 #[] w fun e w' => e = .returned (.bool true) ∧ Below w.heap.size w w' := by
  have HT := Lib.hid hT
  clear hT
  go_enter Tryz.func73, Tryz.ntmps73
  go_wp2_with (go_at_call 74; refine Hid.out ?_)
  refine Lib.hid ?_
  refine (remove_any 2 3 2 5 rfl rfl (by omega) _).mono ?_
  rintro e w1 ⟨A1, c1, x1, rfl, h1, o1, y1⟩
  have E1 := Lib.hid (h1.trans r24_made)
  have O1 := Lib.hid o1
  have Y1 := Lib.hid y1
  clear h1 o1 y1
  go_wp2_with (go_at_call 26; refine Hid.out ?_)
  refine Lib.hid ?_
  have yt1 := ext_alloc w1 (.cells #[.int .u8 1, .int .i64 2, .slice none 0 0, .slice none 0 0, .slice none 0 0, .int .u8 3, .int .i64 3, .slice none 0 0, .slice none 0 0, .slice none 0 0] 40)
  have rdxR24 := rd_ops w1 xR24 (fun z hz => by
    simp only [xR24, List.mem_cons, List.not_mem_nil, or_false] at hz
    rcases hz with rfl | rfl
    · exact ⟨Rd.nil, Rd.nil, Rd.nil⟩
    · exact ⟨Rd.nil, Rd.nil, Rd.nil⟩) (cs := #[.int .u8 1, .int .i64 2, .slice none 0 0, .slice none 0 0, .slice none 0 0, .int .u8 3, .int .i64 3, .slice none 0 0, .slice none 0 0, .slice none 0 0]) rfl (b := w1.heap.size) rfl
  have zt1 : (w1.alloc (.cells #[.int .u8 1, .int .i64 2, .slice none 0 0, .slice none 0 0, .slice none 0 0, .int .u8 3, .int .i64 3, .slice none 0 0, .slice none 0 0, .slice none 0 0] 40)).heap.size = w1.heap.size + 1 := by simp
  generalize w1.alloc (.cells #[.int .u8 1, .int .i64 2, .slice none 0 0, .slice none 0 0, .slice none 0 0, .int .u8 3, .int .i64 3, .slice none 0 0, .slice none 0 0, .slice none 0 0] 40) = t1 at *
  have atxR24 : OpsC t1 (some ⟨w1.heap.size, 0, none⟩) 2 2 xR24 := ⟨⟨rdxR24, rfl, (fun z hz => by
    simp only [xR24, List.mem_cons, List.not_mem_nil, or_false] at hz
    rcases hz with rfl | rfl <;> exact ok_small _ rfl rfl (by simp [opR, opI, opD])), by omega⟩, Nat.le_refl _, by unfold maxLen; omega, (fun z hz => by
    simp only [xR24, List.mem_cons, List.not_mem_nil, or_false] at hz
    rcases hz with rfl | rfl <;> (unfold capO maxLen; simp [opR, opI, opD]))⟩
  refine (same15D (O1.out.at_.ext yt1) atxR24.at_ (decide_eq_true E1.out)).mono ?_
  have yq := ext_trans Y1.out yt1
  rintro e v1 ⟨rfl, y9⟩
  have Y2 := Lib.hid (ext_trans yq y9)
  clear yq y9 yt1 atxR24 rdxR24 O1 E1 Y1
  go_wp2_with (go_at_call 152; refine Hid.out ?_)
  refine Lib.hid ?_
  have yu1 := ext_alloc v1 (.cells #[.int .i64 3, .int .i64 7] 3)
  have ri : RdInt _ _ _ ([3, 7].map (fun p : Nat => (p : Int))) := Rd.new (enc := encInt) (size := 1) encInt_len v1 3 ([3, 7].map (fun p : Nat => (p : Int))) (cs := #[.int .i64 3, .int .i64 7]) rfl rfl
  have zu1 : (v1.alloc (.cells #[.int .i64 3, .int .i64 7] 3)).heap.size = v1.heap.size + 1 := by simp
  generalize v1.alloc (.cells #[.int .i64 3, .int .i64 7] 3) = u1 at *
  have yu2 := ext_alloc u1 (.cells #[.int .i64 1, .bool true, .int .u8 0, .int .i64 0, .int .u64 0, .string ⟨#[]⟩] 45)
  have rc1 : RdCh _ _ _ [chK 1] := Rd.new (enc := Ch.enc) (size := 6) Ch.enc_len u1 45 [chK 1] (cs := #[.int .i64 1, .bool true, .int .u8 0, .int .i64 0, .int .u64 0, .string ⟨#[]⟩]) rfl (b := v1.heap.size + 1) zu1.symm
  have zu2 : (u1.alloc (.cells #[.int .i64 1, .bool true, .int .u8 0, .int .i64 0, .int .u64 0, .string ⟨#[]⟩] 45)).heap.size = v1.heap.size + 2 := by rw [World.size_alloc, zu1]
  generalize u1.alloc (.cells #[.int .i64 1, .bool true, .int .u8 0, .int .i64 0, .int .u64 0, .string ⟨#[]⟩] 45) = u2 at *
  have yu3 := ext_alloc u2 (.cells #[.int .i64 2, .bool true, .int .u8 0, .int .i64 0, .int .u64 0, .string ⟨#[]⟩] 45)
  have rc2 : RdCh _ _ _ [chK 2] := Rd.new (enc := Ch.enc) (size := 6) Ch.enc_len u2 45 [chK 2] (cs := #[.int .i64 2, .bool true, .int .u8 0, .int .i64 0, .int .u64 0, .string ⟨#[]⟩]) rfl (b := v1.heap.size + 2) zu2.symm
  have zu3 : (u2.alloc (.cells #[.int .i64 2, .bool true, .int .u8 0, .int .i64 0, .int .u64 0, .string ⟨#[]⟩] 45)).heap.size = v1.heap.size + 3 := by rw [World.size_alloc, zu2]
  generalize u2.alloc (.cells #[.int .i64 2, .bool true, .int .u8 0, .int .i64 0, .int .u64 0, .string ⟨#[]⟩] 45) = u3 at *
  have yu4 := ext_alloc u3 (.cells #[.slice (some ⟨v1.heap.size + 1, 0, none⟩) 1 1, .slice (some ⟨v1.heap.size + 2, 0, none⟩) 1 1] 37)
  have rx : Rd CX.enc 1 _ _ _ (cx24 (v1.heap.size + 1) (v1.heap.size + 2)) := Rd.new (enc := CX.enc) (size := 1) (fun _ => rfl) u3 37 (cx24 (v1.heap.size + 1) (v1.heap.size + 2)) (cs := #[.slice (some ⟨v1.heap.size + 1, 0, none⟩) 1 1, .slice (some ⟨v1.heap.size + 2, 0, none⟩) 1 1]) rfl (b := v1.heap.size + 3) zu3.symm
  have zu4 : (u3.alloc (.cells #[.slice (some ⟨v1.heap.size + 1, 0, none⟩) 1 1, .slice (some ⟨v1.heap.size + 2, 0, none⟩) 1 1] 37)).heap.size = v1.heap.size + 4 := by rw [World.size_alloc, zu3]
  generalize u3.alloc (.cells #[.slice (some ⟨v1.heap.size + 1, 0, none⟩) 1 1, .slice (some ⟨v1.heap.size + 2, 0, none⟩) 1 1] 37) = u4 at *
  have r3 := ri.ext (ext_trans yu2 (ext_trans yu3 yu4))
  have rd1 := rc1.ext (ext_trans yu3 yu4)
  have rd2 := rc2.ext yu4
  have Y3 := Lib.hid (ext_trans Y2.out (ext_trans yu1 (ext_trans yu2 (ext_trans yu3 yu4))))
  refine (lines_any (some ⟨v1.heap.size, 0, none⟩) (some ⟨v1.heap.size + 3, 0, none⟩) 2 2 2 2 [3, 7] (cx24 (v1.heap.size + 1) (v1.heap.size + 2)) _ rfl r3 (by omega) (fun p hp => by
    rcases List.mem_cons.1 hp with rfl | hp
    · omega
    · rw [List.mem_singleton] at hp; omega) rfl rx (by omega) (fun z hz => by
    rcases List.mem_cons.1 hz with rfl | hz
    · exact ⟨rd1, (by show 1 ≤ 64; omega), okch 1⟩
    · rw [List.mem_singleton] at hz; subst hz
      exact ⟨rd2, (by show 1 ≤ 64; omega), okch 2⟩)).mono ?_
  rintro e w5 ⟨A5, c5, x5, rfl, h5, o5, y5⟩
  have L5 : x5.length = 4 := by
    have h := congrArg List.length h5
    rw [l24_made] at h
    unfold osOf at h
    rwa [List.length_map] at h
  have Y5 := Lib.hid (ext_trans Y3.out y5)
  rw [L5]
  clear h5 o5 y5 r3 rd1 rd2 rx ri rc1 rc2 L5
  go_wp2_with (fail)
  go_ret
  exact ⟨rfl, Y5.out⟩
end Go.Proofs.YtbdkbfoplpociaaGreatDoor
namespace Go.Proofs.YtbdkbfoplpociaaGreatDoor
set_option linter.unusedVariables false
set_option linter.unusedSimpArgs false

theorem gone_any {l : List Ky} {i n N M : Nat} (h : i + n < N) (hM : N ≤ M) (hb : M ≤ 536870912) : FitU l (goneU i n) N M := by
  cases n with
  | zero =>
    have h1 : FitU l (onceU i 0 []) N N := once_fit (mayP_nil l) (by omega) (by omega) (by omega)
    exact FitU.up h1 hM
  | succ n => exact (gone_fit h (by omega)).up hM
end Go.Proofs.YtbdkbfoplpociaaGreatDoor
namespace Go.Proofs.YtbdkbfoplpociaaGreatDoor
set_option linter.unusedVariables false
set_option linter.unusedSimpArgs false

theorem lk_memA {a : List At} {k : Int} {x : At} (h : lk At.key a k = some x) : x ∈ a := List.mem_of_find?_eq_some h
/-- what is typed comes from the left or the right, of an inline key -/
theorem typed_mem {l : List Ky} {a b : List At} (ha : riseA a = true) (hb : riseA b = true) {x : At} (hx : x ∈ typedP l a b) : (x ∈ a ∨ x ∈ b) ∧ ∃ K, findK l x.key = some K ∧ K.block = false := by
  obtain ⟨K, h1, h2, _⟩ := typed_one ha hb hx
  obtain ⟨g1, g2⟩ := typed_all (l := l) ha hb
  have h3 := lk_of_mem At.key (riseA_srt.1 g1) hx
  rw [g2] at h3
  refine ⟨?_, K, h1, h2⟩
  cases hq : (if prK l afterK x.key = true then lk At.key a x.key else none) with
  | some y =>
    rw [hq] at h3
    simp only [Option.some_or, Option.some.injEq] at h3
    subst h3
    split at hq
    · exact .inl (lk_memA hq)
    · cases hq
  | none =>
    rw [hq, Option.none_or] at h3
    split at h3
    · exact .inr (lk_memA h3)
    · cases h3
theorem typed_may {l : List Ky} (hl : l.length ≤ 64) {a b : List At} (ha : mayS l a = 0) (hb : mayS l b = 0) : mayS l (typedP l a b) = 0 ∧ partS l true (typedP l a b) = [] := by
  obtain ⟨_, a2, a3, a4⟩ := mayS_zero ha
  obtain ⟨_, b2, b3, b4⟩ := mayS_zero hb
  refine ⟨stayA hl (riseA_srt.1 (typed_all a2 b2).1) (fun x hx => ?_), ?_⟩
  · rcases (typed_mem a2 b2 hx).1 with h | h
    · exact ⟨a3 x h, a4 x h⟩
    · exact ⟨b3 x h, b4 x h⟩
  · unfold partS
    refine List.filter_eq_nil_iff.2 fun x hx => ?_
    obtain ⟨_, K, h1, h2⟩ := typed_mem a2 b2 hx
    unfold keepK
    rw [h1]
    simp [h2]
theorem split_may {l : List Ky} (hl : l.length ≤ 64) {a : List At} (ha : mayS l a = 0) : mayS l (siftP l splitK a) = 0 ∧ partS l false (siftP l splitK a) = [] := by
  obtain ⟨_, a2, a3, a4⟩ := mayS_zero ha
  refine ⟨stayA hl (riseA_srt.1 (sift_rise a2)) (fun x hx => ⟨a3 x (sift_mem hx), a4 x (sift_mem hx)⟩), ?_⟩
  unfold partS
  refine List.filter_eq_nil_iff.2 fun x hx => ?_
  have h := (List.mem_filter.1 hx).2
  unfold keepK
  cases hf : findK l x.key with
  | none => simp
  | some K =>
    rw [hf] at h
    unfold splitK at h
    simp only [Bool.and_eq_true] at h
    simp [h.1]
/-- a typed rune as a cell -/
def typeC (T S : List At) (r : Int) : Cl := ⟨r, if r = 10 then S else T⟩
theorem type_ok {l : List Ky} {T S : List At} {r : Int} (hr : mayR r = true) (hT : mayS l T = 0 ∧ partS l true T = []) (hS : mayS l S = 0 ∧ partS l false S = []) : okCl l (typeC T S r) := by
  unfold typeC
  by_cases h : r = 10
  · rw [if_pos h]
    refine ⟨hr, hS.1, ?_⟩
    rw [show (r == 10) = true by rw [h]; rfl]
    exact hS.2
  · rw [if_neg h]
    refine ⟨hr, hT.1, ?_⟩
    rw [show (r == 10) = false from beq_eq_false_iff_ne.2 h]
    exact hT.2
end Go.Proofs.YtbdkbfoplpociaaGreatDoor
namespace Go.Proofs.YtbdkbfoplpociaaGreatDoor
open Go.RowKit
set_option linter.unusedVariables false
set_option linter.unusedSimpArgs false

theorem typed_vr {l : List Ky} {a b : List At} (ha : riseA a = true) (hb : riseA b = true) (va : okVr a) (vb : okVr b) : okVr (typedP l a b) := fun x hx => by
  rcases (typed_mem ha hb hx).1 with h | h
  · exact va x h
  · exact vb x h
set_option maxRecDepth 100000 in
set_option maxHeartbeats 3200000 in
theorem type_any (sc : Nat) (l0 : List Ky) (p : Nat) (A A1 A2 A3 : Option Addr) (n c n1 c1 n2 c2 n3 c3 : Nat) (l : List Int) (a b e : List At) (w : World) (hS : Sch w sc l0) (hn : n = l.length) (hr : RdI32 w w.heap.size A l) (hb : n ≤ 1000)
    (e1 : n1 = a.length) (r1 : RdAt w w.heap.size A1 a) (b1 : n1 ≤ 64) (a1 : riseA a = true) (v1 : okVr a) (e2 : n2 = b.length) (r2 : RdAt w w.heap.size A2 b) (b2 : n2 ≤ 64) (a2 : riseA b = true) (v2 : okVr b)
    (e3 : n3 = e.length) (r3 : RdAt w w.heap.size A3 e) (b3 : n3 ≤ 64) (v3 : okVr e) (hp : p ≤ 1000000000000) :
    Calls Tryz.prog 77 #[.pointer (some ⟨sc, 0, none⟩), .int .i64 (p : Int), .slice A n c, .slice A1 n1 c1, .slice A2 n2 c2, .slice A3 n3 c3] w (NewOpC (mkU (pasteU p (l.map (typeC (typedP l0 a b) (siftP l0 splitK e))))) w) := by
  obtain ⟨T, hT⟩ : ∃ X, typedP l0 a b = X := ⟨_, rfl⟩
  obtain ⟨S, hSS⟩ : ∃ X, siftP l0 splitK e = X := ⟨_, rfl⟩
  have VT : Hid (okVr T) := Lib.hid (by rw [← hT]; exact typed_vr a1 a2 v1 v2)
  have VS : Hid (okVr S) := Lib.hid (by rw [← hSS]; exact fun x hx => v3 x (sift_mem hx))
  have LS : Hid (S.length ≤ 64) := Lib.hid (by rw [← hSS]; have := sift_len l0 splitK e; omega)
  rw [hT, hSS]
  obtain ⟨f, hf⟩ : ∃ X, l.map (typeC T S) = X := ⟨_, rfl⟩
  rw [hf]
  have HF := Lib.hid hf
  have HTT := Lib.hid hT
  have HSS := Lib.hid hSS
  have N := Lib.hid hn
  have HR := Lib.hid hr
  have R1 := Lib.hid r1
  have R2 := Lib.hid r2
  have R3 := Lib.hid r3
  have E1 := Lib.hid e1
  have E2 := Lib.hid e2
  have E3 := Lib.hid e3
  have A1' := Lib.hid a1
  have HS := Lib.hid hS
  have HP := Lib.hid hp
  have FL : Hid (f.length = n) := Lib.hid (by rw [← hf, List.length_map, hn])
  have FM : Hid (∀ i r, l[i]? = some r → f[i]? = some (typeC T S r)) := Lib.hid (fun i r h => by rw [← hf, List.getElem?_map, h]; rfl)
  clear hf hT hSS hn hr r1 r2 r3 e1 e2 e3 a1 a2 v1 v2 v3 hS hp
  go_enter Tryz.func77, Tryz.ntmps77
  go_wp2_with (go_at_call 96; refine Hid.out ?_)
  refine Lib.hid ?_
  refine (mkNew_any w).mono ?_
  rintro e0 w1 ⟨rfl, hm, y1⟩
  have HM := Lib.hid hm
  have Y1 := Lib.hid y1
  clear hm y1
  have hF : ∀ k, k = w.heap.size → w.heap.size ≤ k := fun k hk => by omega
  go_wp2_with (go_at_call 121; refine Hid.out ?_)
  refine Lib.hid ?_
  refine (mkRetain_any w.heap.size none (p : Int) 0 0 [] w1 (fun k => k = w.heap.size) Mk.new HM.out rfl Rd.nil (fun ad e => by cases e) (by simp) (by simp [Mk.new]) (fun o ho => by simp [Mk.new, mkGap] at ho)).mono ?_
  rintro e0 w2 ⟨rfl, F2, hm2, g2⟩
  have y2 := Lib.hid (Y1.out.trans (g2.below (B := w.heap.size) hF Y1.out.size))
  have low2 := Lib.hid (g2.low (B := w.heap.size) hF Y1.out.size)
  have HM2 := Lib.hid hm2
  clear hm2 g2
  go_wp2_with (go_at_call 157; refine Hid.out ?_)
  refine Lib.hid ?_
  refine (typed_any sc l0 A1 A2 n1 n2 c1 c2 a b w2 E1.out E2.out (R1.out.ext y2.out) (R2.out.ext y2.out) (by omega) (by omega) (HS.out.ext y2.out)).mono ?_
  rintro e0 w3 ⟨r, hr, hl, A4, c4, rfl, o4, y4⟩
  obtain rfl : r = T := (hr A1'.out).trans HTT.out
  have O4 := Lib.hid o4
  have LT : Hid (r.length ≤ 128) := Lib.hid (by have := E1.out; have := E2.out; omega)
  have y3 := Lib.hid (ext_trans y2.out y4)
  have HM3 := Lib.hid (HM2.out.below y4)
  have OF4 : Hid (OffF F2 A4 r.length) := Lib.hid (o4.offF At.enc_len rfl (fun k hk hk2 => by have h1 := (o4.wb_lt k hk).1; have h2 := HM2.out.lt k hk2; omega))
  clear hr hl o4 y4
  go_wp2_with (go_at_call 158; refine Hid.out ?_)
  refine Lib.hid ?_
  have hsp := split_any sc l0 A3 n3 c3 e w3 E3.out (R3.out.ext y3.out) (by omega) (HS.out.ext y3.out)
  rw [HSS.out] at hsp
  refine hsp.mono ?_
  clear hsp
  rintro e0 w4 ⟨A5, c5, rfl, o5, y5⟩
  have y4 := Lib.hid (ext_trans y3.out y5)
  have HM4 := Lib.hid (HM3.out.below y5)
  have RW : Hid (RdI32 w4 w4.heap.size A l ∧ OffF F2 A l.length ∧ RdAt w4 w4.heap.size A4 r ∧ OffF F2 A4 r.length ∧ RdAt w4 w4.heap.size A5 S ∧ OffF F2 A5 S.length) := Lib.hid
    ⟨HR.out.ext y4.out, HR.out.offF low2.out, (O4.out.below y5 (Nat.le_refl _)).rd At.enc_len, OF4.out, o5.rd At.enc_len, o5.offF At.enc_len rfl (fun k hk hk2 => by have h1 := (o5.wb_lt k hk).1; have h2 := HM3.out.lt k hk2; omega)⟩
  have SF : Hid (∀ c ∈ f, c.s.length ≤ 128) := Lib.hid (fun c hc => by
    rw [← HF.out] at hc
    obtain ⟨q, _, rfl⟩ := List.mem_map.1 hc
    unfold typeC
    simp only
    have := LT.out
    have := LS.out
    split <;> omega)
  have HK := Lib.hid (fun i => (pasteM_new (p : Int)).tell (f.take i) (fun c hc => by have := SF.out c (List.mem_of_mem_take hc); omega))
  clear o5 y5
  go_wp2_with (fail)
  go_loopg [18, 32] n (fun g sv iv wr => ∃ (i : Nat) (F' : Nat → Prop), i ≤ n ∧ g = n - i ∧ iv = .int .i64 (i : Int) ∧ Mkr wr F' w.heap.size (tellM (mkRetain Mk.new (p : Int) []) (f.take i)) ∧ Grow w4 F2 wr F')
  case atStart => exact ⟨0, F2, by omega, rfl, rfl, HM4.out, Grow.refl _ _⟩
  case round =>
    obtain ⟨i, F', hi, hg, rfl, hm, gr⟩ := hrel
    have HG := Lib.hid hg
    have HMR := Lib.hid hm
    clear hg hm
    by_cases hlt : i < n
    · have hlt' : (i : Int) < (n : Int) := by omega
      obtain ⟨ad, q, rfl, had, _, hx, hc1⟩ := (RW.out.1.grow gr RW.out.2.1).el (i := i) (by have := N.out; omega)
      have r0 : wr.cell? (ad.add (i * 1)) = some (.int .i32 q) := by have := hc1 0 _ rfl; rwa [add_zero'] at this
      rw [Nat.mul_one] at r0
      have HX := Lib.hid (FM.out i q hx)
      have TK : Hid (tellM (mkRetain Mk.new (p : Int) []) (f.take (i + 1)) = mkInsert (tellM (mkRetain Mk.new (p : Int) []) (f.take i)) [(typeC r S q).r] (typeC r S q).s) := Lib.hid (by rw [List.take_add_one, HX.out]; exact tellM_snoc _ _ _)
      have KB := Lib.hid (HK.out i)
      have KL := Lib.hid (show (f.take i).length ≤ n by rw [List.length_take]; omega)
      have KI : Hid ((tellM (mkRetain Mk.new (p : Int) []) (f.take i)).ins.length ≤ 10000000) := Lib.hid (by have := KB.out.1; have := KL.out; omega)
      have KO : Hid (∀ o ∈ (tellM (mkRetain Mk.new (p : Int) []) (f.take i)).ins, o.s.length ≤ 10000000 ∧ o.r.length ≤ 100000000) := Lib.hid (fun o ho => ⟨(KB.out.2 o ho).1, by have := (KB.out.2 o ho).2.1; have := KL.out; omega⟩)
      have yb : Below wr.heap.size wr (wr.alloc (.cells #[.int .i32 q] 21)) := ext_alloc wr (.cells #[.int .i32 q] 21)
      have Y := Lib.hid yb
      have MA := Lib.hid (HMR.out.below yb)
      have RT := Lib.hid ((RW.out.2.2.1.grow gr RW.out.2.2.2.1).ext yb)
      have RS := Lib.hid ((RW.out.2.2.2.2.1.grow gr RW.out.2.2.2.2.2).ext yb)
      have RI : Hid (RdI32 (wr.alloc (.cells #[.int .i32 q] 21)) (wr.alloc (.cells #[.int .i32 q] 21)).heap.size (some ⟨wr.heap.size, 0, none⟩) [q]) := Lib.hid (Rd.new (enc := encI32) (size := 1) encI32_len wr 21 [q] (cs := #[.int .i32 q]) rfl rfl)
      have hw2 : IntKind.i64.wrap ((i:Int) + 1) = (i : Int) + 1 := IntWalk.i64_in _ (by omega)
      clear hx hc1 had yb
      by_cases hq : q = 10
      · have e9 : (typeC r S q).s = S := if_pos hq
        have e8 : (typeC r S q).r = q := rfl
        rw [e9, e8] at TK
        have hq' : (q == 10) = true := by rw [hq]; rfl
        clear e9 e8 hq
        go_wp2_with (go_at_call 123; refine Hid.out ?_)
        refine Lib.hid ?_
        refine (mkInsert_any w.heap.size (some ⟨wr.heap.size, 0, none⟩) A5 1 1 S.length c5 [q] S _ F' _ MA.out rfl rfl RI.out RS.out (by decide) (by have := LS.out; omega) KI.out KO.out).mono ?_
        rw [← TK.out]
        rintro e0 w5 ⟨rfl, F5, hm5, g5⟩
        have gg := gr.trans ((Grow.of Y.out).trans g5)
        have HM5 := Lib.hid hm5
        clear hm5
        go_wp2_with (fail)
        go_roundg (n - (i + 1))
        case measure => have := HG.out; omega
        case rel => exact ⟨i + 1, F5, by omega, rfl, by go_num, HM5.out, gg⟩
      · have e9 : (typeC r S q).s = r := if_neg hq
        have e8 : (typeC r S q).r = q := rfl
        rw [e9, e8] at TK
        have hq' : (q == 10) = false := beq_eq_false_iff_ne.2 hq
        clear e9 e8 hq
        go_wp2_with (go_at_call 123; refine Hid.out ?_)
        refine Lib.hid ?_
        refine (mkInsert_any w.heap.size (some ⟨wr.heap.size, 0, none⟩) A4 1 1 r.length c4 [q] r _ F' _ MA.out rfl rfl RI.out RT.out (by decide) (by have := LT.out; omega) KI.out KO.out).mono ?_
        rw [← TK.out]
        rintro e0 w5 ⟨rfl, F5, hm5, g5⟩
        have gg := gr.trans ((Grow.of Y.out).trans g5)
        have HM5 := Lib.hid hm5
        clear hm5
        go_wp2_with (fail)
        go_roundg (n - (i + 1))
        case measure => have := HG.out; omega
        case rel => exact ⟨i + 1, F5, by omega, rfl, by go_num, HM5.out, gg⟩
    · have hlt' : ¬ (i : Int) < (n : Int) := by omega
      have hm := HMR.out
      rw [List.take_of_length_le (by have := FL.out; omega)] at hm
      have HMF : Hid (Mkr wr F' w.heap.size (pasteM (p : Int) f)) := Lib.hid hm
      have y34 := Lib.hid (y4.out.trans (gr.below (B := w.heap.size) low2.out y4.out.size))
      have HBD : Hid (MkB (pasteM (p : Int) f) (2 + n) 128) := Lib.hid (by
        have h0 : MkB (mkRetain Mk.new (p : Int) []) 2 128 := by
          have := (MkB.new 128).retain (p : Int) (p := []) (by simp)
          exact this.mono (by omega) (Nat.le_refl _)
        have := MkB.tell f h0 SF.out
        rw [FL.out] at this
        exact this)
      clear hm gr
      go_wp2_with (go_at_call 103; refine Hid.out ?_)
      refine Lib.hid ?_
      refine (mkOps_any _ wr F' _ HMF.out (by have := HBD.out.len; omega) (fun o ho => by have := HBD.out.gap.2 o ho; omega)).mono ?_
      intro e0 w5 hN
      have hN2 := NewOps.opC (hN.late y34.out) (paste_told p f HP.out) (fun u hu => by
        unfold pasteU at hu
        rcases List.mem_append.1 hu with hu | hu
        · rw [(List.mem_replicate.1 hu).2]; intro c hc; cases hc
        · obtain ⟨z, hz, rfl⟩ := List.mem_map.1 hu
          rw [← HF.out] at hz
          obtain ⟨q, _, rfl⟩ := List.mem_map.1 hz
          show okVr (typeC r S q).s
          unfold typeC
          simp only
          split
          · exact VS.out
          · exact VT.out) HBD.out (by omega) (by omega)
      obtain ⟨A8, c8, x8, rfl, hx, ox, yx⟩ := hN2
      have HN : Hid (NewOpC (mkU (pasteU p f)) w (.returned (.slice A8 x8.length c8)) w5) := Lib.hid ⟨A8, c8, x8, rfl, hx, ox, yx⟩
      clear hN hx ox yx
      go_wp2_with (fail)
      go_ret
      exact HN.out
end Go.Proofs.YtbdkbfoplpociaaGreatDoor
namespace Go.Proofs.YtbdkbfoplpociaaGreatDoor
open Go.RowKit
set_option linter.unusedVariables false
set_option linter.unusedSimpArgs false

/-- refused, or ops of the call's own -/
def OrOps (ok : Prop) (o : List Opd) (w : World) (e : Ending) (w' : World) : Prop :=
  Below w.heap.size w w' ∧ ((∃ r : Int, r ≠ 0 ∧ e = .returned (.tuple #[.slice none 0 0, .int .i64 r])) ∨ (ok ∧ ∃ A c x, e = .returned (.tuple #[.slice A x.length c, .int .i64 0]) ∧ osOf x = o ∧ OpsC w' A x.length c x))
set_option maxRecDepth 100000 in
set_option maxHeartbeats 3200000 in
theorem format_any (sc : Nat) (l0 : List Ky) (i k : Nat) (j : Int) (A : Option Addr) (n c : Nat) (p : List Ch) (w : World) (hS : Sch w sc l0) (hj : j = (i : Int) + (k : Int)) (hik : i + k ≤ 1000000000000) (hn : n = p.length) (hr : RdCh w w.heap.size A p) (hb : n ≤ 64) (hv : okVs p)
    (hT : Lib.Utf8Tabs 1 2 w) :
    Calls Tryz.prog 80 #[.pointer (some ⟨sc, 0, none⟩), .int .i64 (i : Int), .int .i64 j, .slice A n c] w (OrOps (mayP l0 p = 0 ∧ partP l0 true p = []) (mkU (onceU i k p)) w) := by
  subst hj
  have hF : ∀ k, k = w.heap.size → w.heap.size ≤ k := fun k hk => by omega
  have hsub : IntKind.i64.wrap ((i : Int) + (k : Int) - (i : Int)) = (k : Int) := by rw [IntWalk.i64_in _ (by omega)]; omega
  have hsub' : wrap64 ((i : Int) + (k : Int) - (i : Int)) = (k : Int) := by rw [w64_in _ (by omega)]; omega
  obtain ⟨m1, hm1⟩ : ∃ m, mkRetain Mk.new (i : Int) [] = m := ⟨_, rfl⟩
  obtain ⟨m2, hm2⟩ : ∃ m, mkRetain m1 (k : Int) p = m := ⟨_, rfl⟩
  have T1 : Told m1 (List.replicate i (.ret [])) := by
    have := Told.new.retain (i : Int) [] (by simp; omega)
    rw [hm1, Int.toNat_natCast, List.nil_append] at this; exact this
  have TD : Hid (Told m2 (onceU i k p)) := Lib.hid (by
    have := T1.retain (k : Int) p (by rw [List.length_replicate]; omega)
    rw [hm2, Int.toNat_natCast] at this; exact this)
  have B1 : MkB m1 2 64 := by
    have := (MkB.new 64).retain (i : Int) (p := []) (by simp)
    rw [hm1] at this; exact this
  have B2 : Hid (MkB m2 4 64) := Lib.hid (by have := B1.retain (k : Int) (p := p) (by omega); rw [hm2] at this; exact this)
  have HB1 := Lib.hid B1
  have HM1 := Lib.hid hm1
  have HM2 := Lib.hid hm2
  have N := Lib.hid hn
  have HR := Lib.hid hr
  have HS := Lib.hid hS
  have HV := Lib.hid hv
  have HT := Lib.hid hT
  obtain ⟨mp, hmp⟩ : ∃ X, mayP l0 p = X := ⟨_, rfl⟩
  obtain ⟨pt, hpt⟩ : ∃ X, partP l0 true p = X := ⟨_, rfl⟩
  have MP := Lib.hid hmp
  have PT := Lib.hid hpt
  rw [hmp, hpt]
  clear hm1 hm2 T1 B1 hn hr hS hv hT hmp hpt hik
  go_enter Tryz.func80, Tryz.ntmps80
  go_wp2_with (go_at_call 159; refine Hid.out ?_)
  refine Lib.hid ?_
  refine (mayP_any sc l0 A n c p w N.out HR.out (by omega) HS.out HV.out HT.out).mono ?_
  rw [MP.out]
  rintro e w1 ⟨rfl, y1⟩
  have Y1 := Lib.hid y1
  clear y1
  by_cases h0 : mp = 0
  rotate_left
  · have h0' : (mp == 0) = false := beq_eq_false_iff_ne.2 h0
    have h0'' : (mp != 0) = true := by rw [bne, h0']; rfl
    go_wp2_with (fail)
    refine bodyPost_ret (v := .tuple #[.slice none 0 0, .int .i64 mp]) (by simp [results, Tryz.results80, go_sem]) rfl ?_
    exact ⟨Y1.out, .inl ⟨mp, h0, rfl⟩⟩
  subst h0
  go_wp2_with (go_at_call 117; refine Hid.out ?_)
  refine Lib.hid ?_
  refine (part_any sc l0 true A n c p w1 N.out (HR.out.ext Y1.out) (by omega) (HS.out.ext Y1.out)).mono ?_
  rw [PT.out]
  rintro e w2 ⟨A4, c4, rfl, _, y2⟩
  have Y2 := Lib.hid (ext_trans Y1.out y2)
  clear y2
  by_cases hp0 : pt = []
  rotate_left
  · have hlen : (0 : Int) < (pt.length : Int) := by have := List.length_pos_iff.2 hp0; omega
    go_wp2_with (fail)
    refine bodyPost_ret (v := .tuple #[.slice none 0 0, .int .i64 7]) (by simp [results, Tryz.results80, go_sem]) rfl ?_
    exact ⟨Y2.out, .inl ⟨7, by decide, rfl⟩⟩
  subst hp0
  have hlen : ¬ (0 : Int) < (([] : List Ch).length : Int) := by simp
  go_wp2_with (go_at_call 96; refine Hid.out ?_)
  refine Lib.hid ?_
  refine (mkNew_any w2).mono ?_
  rintro e w3 ⟨rfl, hm, y3⟩
  have HM := Lib.hid hm
  have YN := Lib.hid y3
  clear hm y3
  have hF2 : ∀ k, k = w2.heap.size → w2.heap.size ≤ k := fun k hk => by omega
  go_wp2_with (go_at_call 121; refine Hid.out ?_)
  refine Lib.hid ?_
  refine (mkRetain_any w2.heap.size none (i : Int) 0 0 [] w3 (fun k => k = w2.heap.size) Mk.new HM.out rfl Rd.nil (fun ad e => by cases e) (by simp) (by simp [Mk.new]) (fun o ho => by simp [Mk.new, mkGap] at ho)).mono ?_
  rw [HM1.out]
  rintro e w4 ⟨rfl, F2, hm2, g2⟩
  have y4 := Lib.hid (YN.out.trans (g2.below (B := w2.heap.size) hF2 YN.out.size))
  have low2 := Lib.hid (g2.low (B := w2.heap.size) hF2 YN.out.size)
  have HMA := Lib.hid hm2
  have RP := Lib.hid (HR.out.ext (ext_trans Y2.out y4.out))
  have RO : Hid (OffF F2 A p.length) := Lib.hid ((HR.out.ext Y2.out).offF low2.out)
  clear hm2 g2
  go_wp2_with (go_at_call 121; refine Hid.out ?_)
  refine Lib.hid ?_
  refine (mkRetain_any w2.heap.size A (k : Int) n c p w4 F2 m1 HMA.out N.out RP.out RO.out (by omega) (by have := HB1.out.len; omega) (fun o ho => by have := HB1.out.gap.2 o ho; omega)).mono ?_
  rw [HM2.out]
  rintro e w5 ⟨rfl, F3, hm3, g3⟩
  have y5 := Lib.hid (y4.out.trans (g3.below (B := w2.heap.size) low2.out y4.out.size))
  have HMB := Lib.hid hm3
  clear hm3 g3
  go_wp2_with (go_at_call 103; refine Hid.out ?_)
  refine Lib.hid ?_
  refine (mkOps_any w2.heap.size w5 F3 m2 HMB.out (by have := B2.out.len; omega) (fun o ho => by have := B2.out.gap.2 o ho; omega)).mono ?_
  intro e w6 hN
  have hN2 := NewOps.opC (hN.late y5.out) TD.out (fun u hu => by
    unfold onceU at hu
    rcases List.mem_append.1 hu with hu | hu
    · rw [(List.mem_replicate.1 hu).2]; intro c hc; cases hc
    · rw [(List.mem_replicate.1 hu).2]; exact HV.out) B2.out (by omega) (by omega)
  obtain ⟨A8, c8, x, rfl, hx, ox, yx⟩ := hN2
  have HX := Lib.hid hx
  have OX := Lib.hid ox
  have YX := Lib.hid (ext_trans Y2.out yx)
  clear hN hx ox yx
  go_wp2_with (fail)
  refine bodyPost_ret (v := .tuple #[.slice A8 x.length c8, .int .i64 0]) (by simp [results, Tryz.results80, go_sem]) rfl ?_
  exact ⟨YX.out, .inr ⟨by simp, A8, c8, x, rfl, HX.out, OX.out⟩⟩
theorem paraCl_any (b0 : Nat) (A : Option Addr) (n c : Nat) (k : Int) (w : World) (hx : w.heap[b0]? = some (.cells #[.slice A n c] 37 (0, 0))) :
    Calls Tryz.prog 162 #[.int .i64 k, .pointer (some ⟨b0, 0, none⟩)] w fun e w' => e = .returned (.slice A n c) ∧ w' = w := by
  have d0 := box_1 hx
  clear hx
  go_enter Tryz.func162, Tryz.ntmps162
  go_wp2_with (fail)
  go_ret
  exact ⟨rfl, rfl⟩
theorem compl_vs {l : List Ky} {p : List Ch} (hp : riseC p = true) (hv : okVs p) : okVs (completeP l p) := fun c hc => by
  rcases compl_mem hp hc with h | ⟨h, _⟩
  · exact hv c h
  · rw [h]
    exact ⟨by unfold okV goneK V.zero; simp, Nat.zero_le _⟩
set_option maxRecDepth 100000 in
set_option maxHeartbeats 3200000 in
theorem paragraph_any (sc : Nat) (l0 : List Ky) (A A2 : Option Addr) (n c n2 c2 : Nat) (l : List Nat) (p : List Ch) (w : World) (hS : Sch w sc l0) (hl0 : l0.length ≤ 64) (hn : n = p.length) (hr : RdCh w w.heap.size A p) (hb : n ≤ 64) (hv : okVs p)
    (hn2 : n2 = l.length) (h2 : RdInt w w.heap.size A2 (l.map (fun p : Nat => (p : Int)))) (hb2 : n2 ≤ 100000) (hl : ∀ p ∈ l, p ≤ 2000000000000)
    (hT : Lib.Utf8Tabs 1 2 w) :
    Calls Tryz.prog 81 #[.pointer (some ⟨sc, 0, none⟩), .slice A2 n2 c2, .slice A n c] w (OrOps (mayP l0 p = 0) (mkU (linesU (fun _ => completeP l0 p) 0 0 l)) w) := by
  have N := Lib.hid hn
  have HR := Lib.hid hr
  have HS := Lib.hid hS
  have HV := Lib.hid hv
  have HT := Lib.hid hT
  have N2 := Lib.hid hn2
  have R2 := Lib.hid h2
  have HL := Lib.hid hl
  have H64 := Lib.hid hl0
  obtain ⟨mp, hmp⟩ : ∃ X, mayP l0 p = X := ⟨_, rfl⟩
  have MP := Lib.hid hmp
  rw [hmp]
  clear hn hr hS hv hT hmp hn2 h2 hl hl0
  go_enter Tryz.func81, Tryz.ntmps81
  go_wp2_with (go_at_call 159; refine Hid.out ?_)
  refine Lib.hid ?_
  refine (mayP_any sc l0 A n c p w N.out HR.out (by omega) HS.out HV.out HT.out).mono ?_
  rw [MP.out]
  rintro e w1 ⟨rfl, y1⟩
  have Y1 := Lib.hid y1
  clear y1
  by_cases h0 : mp = 0
  rotate_left
  · have h0' : (mp == 0) = false := beq_eq_false_iff_ne.2 h0
    have h0'' : (mp != 0) = true := by rw [bne, h0']; rfl
    go_wp2_with (fail)
    refine bodyPost_ret (v := .tuple #[.slice none 0 0, .int .i64 mp]) (by simp [results, Tryz.results81, go_sem]) rfl ?_
    exact ⟨Y1.out, .inl ⟨mp, h0, rfl⟩⟩
  subst h0
  have RC : Hid (riseC p = true) := Lib.hid (mayP_zero MP.out).2.1
  have ML : Hid ((completeP l0 p).length ≤ 64) := Lib.hid (by have := compl_len (l := l0) (p := p) MP.out; have := H64.out; omega)
  go_wp2_with (go_at_call 160; refine Hid.out ?_)
  refine Lib.hid ?_
  refine (complete_any sc l0 A n c p w1 N.out (HR.out.ext Y1.out) (by omega) (HS.out.ext Y1.out) H64.out).mono ?_
  rintro e w2 ⟨r, er, A4, c4, rfl, hc, hlen, o4, y2⟩
  have yb := ext_alloc w2 (.cells #[.slice A4 r.length c4] 37)
  have hbx := heap_alloc_new w2 (.cells #[.slice A4 r.length c4] 37)
  rcases hc RC.out with ⟨_, rfl, rfl⟩ | ⟨_, rfl, rfl⟩
  · have Y2 := Lib.hid (ext_trans (ext_trans Y1.out y2) yb)
    clear y2 yb hbx o4 hlen
    go_wp2_with (fail)
    refine bodyPost_ret (v := .tuple #[.slice none 0 0, .int .i64 3]) (by simp [results, Tryz.results81, go_sem]) rfl ?_
    exact ⟨Y2.out, .inl ⟨3, by decide, rfl⟩⟩
  obtain ⟨W, hW⟩ : ∃ X, completeP l0 p = X := ⟨_, rfl⟩
  have HW := Lib.hid hW
  rw [hW] at o4 yb hbx ML hc hlen
  rw [hW]
  have O4 := Lib.hid (o4.below yb (Nat.le_refl _))
  have Y2 := Lib.hid (ext_trans (ext_trans Y1.out y2) yb)
  have YO := Lib.hid (ext_trans Y1.out y2)
  have HBX := Lib.hid hbx
  have SZ2 : Hid ((w2.alloc (.cells #[.slice A4 W.length c4] 37)).heap.size = w2.heap.size + 1) := Lib.hid (by simp)
  have OWB : Hid (∀ ad, A4 = some ad → 0 < W.length → w1.heap.size ≤ ad.block ∧ ad.block < w2.heap.size) := Lib.hid (fun ad e hl => by
    obtain ⟨ad', e', h1, _⟩ := (o4.rd Ch.enc_len) hl
    rw [e] at e'; injection e' with e'; subst e'
    subst e
    obtain ⟨g, cur, hA, _⟩ := o4.row hl
    have hc4 := (cap_own o4).1
    obtain ⟨c5, rfl⟩ : ∃ c5, c4 = c5 + 1 := ⟨c4 - 1, by omega⟩
    injection hA with hA
    subst hA
    have h2 := (o4.wb_lt g rfl).1
    exact ⟨h2, h1⟩)
  clear y2 yb hbx o4 hW hc hlen
  go_wp2_with (go_at_call 117; refine Hid.out ?_)
  refine Lib.hid ?_
  refine (part_any sc l0 false A n c p _ N.out (HR.out.ext Y2.out) (by omega) (HS.out.ext Y2.out)).mono ?_
  obtain ⟨pt, hpt⟩ : ∃ X, partP l0 false p = X := ⟨_, rfl⟩
  rw [hpt]
  clear hpt
  rintro e w3 ⟨A5, c5, rfl, _, y3⟩
  have HB3 := Lib.hid ((y3.block _ (lt_of_some HBX.out)).trans HBX.out)
  have O3 := Lib.hid (O4.out.below y3 (Nat.le_refl _))
  have Y3 := Lib.hid (ext_trans Y2.out y3)
  have SZ3 := Lib.hid y3.size
  clear y3
  by_cases hp0 : pt = []
  rotate_left
  · have hlen : (0 : Int) < (pt.length : Int) := by have := List.length_pos_iff.2 hp0; omega
    go_wp2_with (fail)
    refine bodyPost_ret (v := .tuple #[.slice none 0 0, .int .i64 7]) (by simp [results, Tryz.results81, go_sem]) rfl ?_
    exact ⟨Y3.out, .inl ⟨7, by decide, rfl⟩⟩
  subst hp0
  have hlen : ¬ (0 : Int) < (([] : List Ch).length : Int) := by simp
  go_wp2_with (go_at_call 161; refine Hid.out ?_)
  refine Lib.hid ?_
  refine (linesP_any w2.heap.size A2 n2 c2 l (fun _ => W) w3 N2.out (R2.out.ext Y3.out) hb2 HL.out (fun _ => ML.out) (fun _ => by rw [← HW.out]; exact compl_vs RC.out HV.out) (fun k w' hk yk => ?_)).mono ?_
  · have hx := (yk.block _ (lt_of_some HB3.out)).trans HB3.out
    refine (paraCl_any w2.heap.size A4 W.length c4 (k : Int) w' hx).mono ?_
    rintro e w'' ⟨rfl, rfl⟩
    have h3 := SZ3.out
    have h4 := SZ2.out
    exact ⟨A4, c4, rfl, (O3.out.below yk (Nat.le_refl _)).rd Ch.enc_len, fun ad e hl => .inl (by have := OWB.out ad e hl; omega), Below.refl _ _⟩
  · rintro e w4 ⟨A8, c8, x8, rfl, hx, ox, yx⟩
    have HX := Lib.hid hx
    have OX := Lib.hid ox
    have YX := Lib.hid (ext_trans Y3.out yx)
    clear hx ox yx
    go_wp2_with (fail)
    refine bodyPost_ret (v := .tuple #[.slice A8 x8.length c8, .int .i64 0]) (by simp [results, Tryz.results81, go_sem]) rfl ?_
    exact ⟨YX.out, .inr ⟨by simp, A8, c8, x8, rfl, (by rw [HW.out]; exact HX.out), OX.out⟩⟩
end Go.Proofs.YtbdkbfoplpociaaGreatDoor
