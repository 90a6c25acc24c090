/- Merged texts: DiffLaw, LeadLaw, DiffW, DiffW2, MkIn. -/
import Derived.Test.YtfnkjcodcoehcaaGreatDoorP32
import Derived.Test.YtfnkjcodcoehcaaGreatDoorP21
import Derived.Test.YtfnkjcodcoehcaaGreatDoorP23
import Derived.Test.YtfnkjcodcoehcaaGreatDoorP14
import Derived.Test.YtfnkjcodcoehcaaGreatDoorP15
import Derived.Test.YtfnkjcodcoehcaaGreatDoorP16
import Derived.Test.YtfnkjcodcoehcaaGreatDoorP22
namespace Go.Proofs.YtfnkjcodcoehcaaGreatDoor
set_option linter.unusedVariables false
set_option linter.unusedSimpArgs false

/-- how long the beginning is -/
def begD (d e : List Cl) : Nat := min (cpl d e) (min d.length e.length - 1)
/-- how long the end is -/
def endD (d e : List Cl) : Nat := 1 + cpl ((d.reverse.drop 1).map (·.r)) ((e.reverse.drop 1).map (·.r))
/-- retains told for cells that change their sets -/
def retsM (m : Mk) (z : List (Cl × Cl)) : Mk := z.foldl (fun m x => mkRetain m 1 (diffP x.1.s x.2.s)) m
theorem retsM_snoc (m : Mk) (z : List (Cl × Cl)) (x : Cl × Cl) : retsM m (z ++ [x]) = mkRetain (retsM m z) 1 (diffP x.1.s x.2.s) := by unfold retsM; rw [List.foldl_append]; rfl
/-- the maker behind the inserts and the delete, of what is behind the beginning -/
def diffM1 (n : Nat) (d1 e1 : List Cl) : Mk :=
  mkDelete (tellM (mkRetain Mk.new n []) (e1.take (e1.length - endD d1 e1))) ((d1.length : Int) - endD d1 e1)
/-- the maker that diff.Diff tells -/
def diffM (d e : List Cl) : Mk :=
  retsM (diffM1 (begD d e) (d.drop (begD d e)) (e.drop (begD d e)))
    (((d.drop (begD d e)).drop ((d.drop (begD d e)).length - endD (d.drop (begD d e)) (e.drop (begD d e)))).zip ((e.drop (begD d e)).drop ((e.drop (begD d e)).length - endD (d.drop (begD d e)) (e.drop (begD d e)))))
theorem endD_le {d e : List Cl} (hd : d ≠ []) (he : e ≠ []) : 1 ≤ endD d e ∧ endD d e ≤ d.length ∧ endD d e ≤ e.length := by
  have h1 := cpl_le_left ((d.reverse.drop 1).map (·.r)) ((e.reverse.drop 1).map (·.r))
  have h2 := cpl_le_right ((d.reverse.drop 1).map (·.r)) ((e.reverse.drop 1).map (·.r))
  have l1 : 0 < d.length := List.length_pos_iff.2 hd
  have l2 : 0 < e.length := List.length_pos_iff.2 he
  unfold endD
  simp only [List.length_map, List.length_drop, List.length_reverse] at h1 h2
  omega
theorem begD_le {d e : List Cl} (hd : d ≠ []) (he : e ≠ []) : begD d e < d.length ∧ begD d e < e.length := by
  have l1 : 0 < d.length := List.length_pos_iff.2 hd
  have l2 : 0 < e.length := List.length_pos_iff.2 he
  unfold begD
  omega
theorem rev_cl (d : List Cl) {n : Nat} (h : n < d.length) : d.reverse[n]? = d[d.length - 1 - n]? := List.getElem?_reverse h
theorem endD_at {d e : List Cl} {n : Nat} {a b : Cl} (h : endD d e = n + cpl ((d.reverse.drop n).map (·.r)) ((e.reverse.drop n).map (·.r))) (h1 : n < d.length) (h2 : n < e.length) (ha : d[d.length - 1 - n]? = some a) (hb : e[e.length - 1 - n]? = some b) :
    (a.r ≠ b.r → endD d e = n) ∧ (a.r = b.r → endD d e = n + 1 + cpl ((d.reverse.drop (n + 1)).map (·.r)) ((e.reverse.drop (n + 1)).map (·.r))) := by
  rw [← rev_cl d h1] at ha
  rw [← rev_cl e h2] at hb
  have e1 : d.reverse.drop n = a :: d.reverse.drop (n + 1) := by
    obtain ⟨hl, hv⟩ := List.getElem?_eq_some_iff.1 ha
    rw [List.drop_eq_getElem_cons hl, hv]
  have e2 : e.reverse.drop n = b :: e.reverse.drop (n + 1) := by
    obtain ⟨hl, hv⟩ := List.getElem?_eq_some_iff.1 hb
    rw [List.drop_eq_getElem_cons hl, hv]
  rw [e1, e2, List.map_cons, List.map_cons] at h
  constructor
  · intro hne
    rw [h, cpl_cons_ne hne]; rfl
  · intro he
    rw [h]
    conv => lhs; rw [cpl]
    rw [if_pos he]
    omega
theorem endD_over {d e : List Cl} {n : Nat} (h : endD d e = n + cpl ((d.reverse.drop n).map (·.r)) ((e.reverse.drop n).map (·.r))) (h1 : d.length ≤ n ∨ e.length ≤ n) : endD d e = n := by
  rw [h]
  rcases h1 with h1 | h1
  · rw [List.drop_eq_nil_of_le (by simpa using h1)]
    show n + cpl [] _ = n
    rw [cpl_nil_left]; rfl
  · have h2 : e.reverse.drop n = [] := List.drop_eq_nil_of_le (by simpa using h1)
    rw [h2]
    show n + cpl _ [] = n
    rw [cpl_nil_right]; rfl
/-- the units of those retains -/
def retU (x : Cl × Cl) : Un := .ret (diffP x.1.s x.2.s)
/-- the units behind the beginning -/
def diffU1 (d1 e1 : List Cl) : List Un :=
  (e1.take (e1.length - endD d1 e1)).map insU ++ List.replicate (d1.length - endD d1 e1) .del ++ ((d1.drop (d1.length - endD d1 e1)).zip (e1.drop (e1.length - endD d1 e1))).map retU
def diffU (d e : List Cl) : List Un := List.replicate (begD d e) (.ret []) ++ diffU1 (d.drop (begD d e)) (e.drop (begD d e))
/-- how great the maker is -/
theorem retsM_B {m : Mk} {K S : Nat} (h : MkB m K S) : ∀ (z : List (Cl × Cl)), (∀ x ∈ z, (diffP x.1.s x.2.s).length ≤ S) → MkB (retsM m z) (K + 2 * z.length) S := by
  intro z
  induction z generalizing m K with
  | nil => intro _; exact h
  | cons x z ih =>
    intro hz
    have := ih (h.retain 1 (hz x (by simp))) (fun y hy => hz y (by simp [hy]))
    rw [List.length_cons, show K + 2 * (z.length + 1) = K + 2 + 2 * z.length by omega]
    exact this
theorem MkB.tellD {m : Mk} {K S : Nat} (h : MkB m K S) : ∀ (d : List Cl), (∀ c ∈ d, c.s.length ≤ S) → MkB (tellM m d) (K + d.length) S := by
  intro d
  induction d generalizing m K with
  | nil => intro _; exact h
  | cons c d ih =>
    intro hs
    have := ih (h.insert [c.r] (hs c (by simp))) (fun x hx => hs x (by simp [hx]))
    rw [List.length_cons, show K + (d.length + 1) = K + 1 + d.length by omega]
    exact this
end Go.Proofs.YtfnkjcodcoehcaaGreatDoor
namespace Go.Proofs.YtfnkjcodcoehcaaGreatDoor
set_option linter.unusedVariables false
set_option linter.unusedSimpArgs false

theorem mkDel_told {m : Mk} {us : List Un} (h : Told m us) (n : Nat) (hb : us.length + n ≤ 4611686018427387904) : Told (mkDelete m (n : Int)) (us ++ List.replicate n .del) := by
  have := h.delete (n : Int) (by omega) (by omega)
  simpa using this
theorem told_tell {m : Mk} {us : List Un} (h : Told m us) : ∀ (f : List Cl), Told (tellM m f) (us ++ f.map insU) := by
  intro f
  induction f generalizing m us with
  | nil => rw [List.map_nil, List.append_nil]; exact h
  | cons c f ih =>
    have h1 := h.insert [c.r] c.s
    have h2 := ih h1
    have e : us ++ List.map (fun r => Un.ins r c.s) [c.r] ++ f.map insU = us ++ (c :: f).map insU := by simp [insU]
    rw [e] at h2
    exact h2
theorem told_rets {m : Mk} {us : List Un} (h : Told m us) : ∀ (z : List (Cl × Cl)), us.length + z.length ≤ 4611686018427387904 → Told (retsM m z) (us ++ z.map retU) := by
  intro z
  induction z generalizing m us with
  | nil => intro _; rw [List.map_nil, List.append_nil]; exact h
  | cons x z ih =>
    intro hb
    simp only [List.length_cons] at hb
    have h1 := h.retain 1 (diffP x.1.s x.2.s) (by omega)
    have h2 := ih h1 (by simp; omega)
    have e : us ++ List.replicate (Int.toNat 1) (Un.ret (diffP x.1.s x.2.s)) ++ z.map retU = us ++ (x :: z).map retU := by simp [retU]
    rw [e] at h2
    exact h2
theorem diff_told {d e : List Cl} (bd : d.length ≤ 1000000) (be : e.length ≤ 1000000) (hd : d ≠ []) (he : e ≠ []) : Told (diffM d e) (diffU d e) := by
  obtain ⟨b1, b2⟩ := begD_le hd he
  have hd1 : d.drop (begD d e) ≠ [] := fun h => by have := congrArg List.length h; simp at this; omega
  have he1 : e.drop (begD d e) ≠ [] := fun h => by have := congrArg List.length h; simp at this; omega
  unfold diffM diffU
  have ld : (d.drop (begD d e)).length ≤ 1000000 := by rw [List.length_drop]; omega
  have le : (e.drop (begD d e)).length ≤ 1000000 := by rw [List.length_drop]; omega
  have hn : begD d e ≤ 1000000 := by omega
  generalize begD d e = n at *
  generalize d.drop n = d1 at *
  generalize e.drop n = e1 at *
  obtain ⟨k1, k2, k3⟩ := endD_le hd1 he1
  unfold diffM1 diffU1
  generalize endD d1 e1 = k at *
  have h0 := Told.new.retain (n : Int) [] (by simp; omega)
  simp only [List.nil_append, Int.toNat_natCast] at h0
  have h1 := told_tell h0 (e1.take (e1.length - k))
  have h2 := mkDel_told h1 (d1.length - k) (by simp; omega)
  have e2 : ((d1.length - k : Nat) : Int) = (d1.length : Int) - (k : Int) := by omega
  rw [e2] at h2
  have h3 := told_rets h2 ((d1.drop (d1.length - k)).zip (e1.drop (e1.length - k))) (by simp; omega)
  simpa [List.append_assoc] using h3
theorem mayD_end {l : List Ky} {d : List Cl} (h : mayD l d = 0) : d ≠ [] ∧ (d.getLast?).map (·.r) = some 10 := by
  obtain ⟨_, _, t, c, rfl, h3⟩ := mayD_iff.1 h
  exact ⟨by simp, by simp [h3]⟩
end Go.Proofs.YtfnkjcodcoehcaaGreatDoor
namespace Go.Proofs.YtfnkjcodcoehcaaGreatDoor
open Go.RowKit
set_option linter.unusedVariables false
set_option linter.unusedSimpArgs false

set_option maxRecDepth 100000 in
set_option maxHeartbeats 400000 in
theorem begin_any (A B : Option Addr) (n m c c' : Nat) (d e : List ClS) (w : World) (hn : n = d.length) (hm : m = e.length) (h1 : RdCl w w.heap.size A d) (h2 : RdCl w w.heap.size B e) (k1 : n ≤ c) (k2 : m ≤ c') (b1 : n ≤ 1000000) (b2 : m ≤ 1000000) (p1 : 1 ≤ n) (p2 : 1 ≤ m)
    (hs1 : ∀ x ∈ d, x.c.s.length ≤ 140737488355328) (hs2 : ∀ x ∈ e, x.c.s.length ≤ 140737488355328) :
    Calls Tryz.prog 80 #[.slice A n c, .slice B m c'] w fun x w' => x = .returned (.int .i64 (begD (clsOf d) (clsOf e))) ∧ Below w.heap.size w w' := by
  have N := Lib.hid hn
  have M := Lib.hid hm
  have H1 := Lib.hid h1
  have H2 := Lib.hid h2
  have S1 := Lib.hid hs1
  have S2 := Lib.hid hs2
  obtain ⟨K, hK⟩ : ∃ K, min n m = K := ⟨_, rfl⟩
  have HK := Lib.hid hK
  have ek : min (n : Int) (m : Int) = (K : Int) := by omega
  generalize hR : begD (clsOf d) (clsOf e) = R
  have HR := Lib.hid hR
  clear hn hm h1 h2 hs1 hs2 hR hK
  go_enter Tryz.func80, Tryz.ntmps80
  go_wp2_with (fail)
  go_loopg [5] K (fun g iv wr => ∃ i : Nat, i ≤ K - 1 ∧ g = K - i ∧ iv = .int .i64 (i : Int) ∧ Below w.heap.size w wr ∧ Hid ((clsOf d).take i = (clsOf e).take i))
  case atStart => exact ⟨0, by omega, rfl, rfl, Below.refl _ _, Lib.hid rfl⟩
  case round =>
    obtain ⟨i, hi, hg, rfl, y, HI⟩ := hrel
    have HG := Lib.hid hg
    clear hg
    by_cases hlt : i < K - 1
    · have hl1 : i < d.length := by have := N.out; have := HK.out; omega
      have hl2 : i < e.length := by have := M.out; have := HK.out; omega
      obtain ⟨x, hx⟩ : ∃ x, d[i]? = some x := ⟨d[i], by rw [List.getElem?_eq_getElem hl1]⟩
      obtain ⟨z, hz⟩ : ∃ x, e[i]? = some x := ⟨e[i], by rw [List.getElem?_eq_getElem hl2]⟩
      have hdx : (d.drop i).take 1 = [x] := by rw [List.drop_eq_getElem_cons hl1]; rw [List.getElem?_eq_getElem hl1] at hx; injection hx with hx; rw [hx]; rfl
      have hez : (e.drop i).take 1 = [z] := by rw [List.drop_eq_getElem_cons hl2]; rw [List.getElem?_eq_getElem hl2] at hz; injection hz with hz; rw [hz]; rfl
      obtain ⟨A8, hA8⟩ : ∃ X, advS A c i 2 = X := ⟨_, rfl⟩
      obtain ⟨B8, hB8⟩ : ∃ X, advS B c' i 2 = X := ⟨_, rfl⟩
      obtain ⟨c8, hc8⟩ : ∃ X, c - i = X := ⟨_, rfl⟩
      obtain ⟨c9, hc9⟩ : ∃ X, c' - i = X := ⟨_, rfl⟩
      have sl1 : ∀ W, (Instr.slice 23 (.slice A n c) (some (.int .i64 (i : Int))) (some (.int .i64 ((i : Int) + 1))) none).run Tryz.prog W = .ok (.slice A8 1 c8) W := sl_one hA8 hc8 (by have := HK.out; omega)
      have sl2 : ∀ W, (Instr.slice 23 (.slice B m c') (some (.int .i64 (i : Int))) (some (.int .i64 ((i : Int) + 1))) none).run Tryz.prog W = .ok (.slice B8 1 c9) W := sl_one hB8 hc9 (by have := HK.out; omega)
      have R8 : Hid (∀ v, Below w.heap.size w v → RdCl v v.heap.size A8 [x]) := Lib.hid (fun v hv => by
        have := ((H1.out.ext hv).from hA8 (by have := N.out; omega) (by have := N.out; omega)).take 1
        rwa [hdx] at this)
      have R9 : Hid (∀ v, Below w.heap.size w v → RdCl v v.heap.size B8 [z]) := Lib.hid (fun v hv => by
        have := ((H2.out.ext hv).from hB8 (by have := M.out; omega) (by have := M.out; omega)).take 1
        rwa [hez] at this)
      have SX := Lib.hid (S1.out x (List.mem_of_getElem? hx))
      have SZ := Lib.hid (S2.out z (List.mem_of_getElem? hz))
      have CX := Lib.hid (clsOf_at hx)
      have CZ := Lib.hid (clsOf_at hz)
      have e0 : (i : Int) < (K : Int) - 1 := by omega
      have e1 : (i : Int) ≤ 1000000 := by omega
      have e2 : (K : Int) ≤ 1000000 := by have := HK.out; omega
      have hw1 := Lib.hid (IntWalk.i64_in ((K : Int) - 1) (by omega))
      have hw0 := Lib.hid (w64_in ((i : Int) + 1) (by omega))
      have hw2 := Lib.hid (IntWalk.i64_in ((i : Int) + 1) (by omega))
      have hw3 := Lib.hid (w64_in ((K : Int) - 1) (by omega))
      have Y := Lib.hid y
      clear hx hz hdx hez hA8 hB8 hc8 hc9 hl1 hl2 y
      generalize hs : decide (clsOf [x] = clsOf [z]) = S
      have HS := Lib.hid hs
      clear hs
      replace hw0 := hw0.out
      replace hw1 := hw1.out
      replace hw2 := hw2.out
      replace hw3 := hw3.out
      go_wp2_with (fail)
      go_region_held3 (fun w' => True) (go_keep) (first
       | (go_at_call 61
          with_reducible refine (cellsSame_any A8 B8 1 1 c8 c9 [x] [z] wr.drew rfl rfl (R8.out _ (up_drew Y.out)) (R9.out _ (up_drew Y.out)) (by omega) (by omega) (fun q hq => by simp at hq; subst hq; exact SX.out) (fun q hq => by simp at hq; subst hq; exact SZ.out)).mono ?_
          rw [HS.out]
          rintro r w2 ⟨rfl, y2⟩))
      have Y3 := ext_trans Y.out (ext_trans (ext_drew wr 1) y2)
      cases S with
      | true =>
        have hxz : x.c = z.c := by have := of_decide_eq_true HS.out; simpa [clsOf] using this
        have HI2 : Hid ((clsOf d).take (i + 1) = (clsOf e).take (i + 1)) := Lib.hid (by rw [List.take_add_one, List.take_add_one, HI.out, CX.out, CZ.out, hxz])
        clear hw0 hw1 hw3
        go_wp2_with (fail)
        go_roundg (K - (i + 1))
        case measure => have := HG.out; clear hw2; omega
        case rel => exact ⟨i + 1, by clear hw2; omega, rfl, by go_num, Y3, HI2⟩
      | false =>
        have hxz : x.c ≠ z.c := by have := of_decide_eq_false HS.out; simpa [clsOf] using this
        have hR : R = i := by
          rw [← HR.out]
          unfold begD
          have hd : (clsOf d).drop i = x.c :: (clsOf d).drop (i + 1) := by
            obtain ⟨hl, hv⟩ := List.getElem?_eq_some_iff.1 CX.out
            rw [List.drop_eq_getElem_cons hl, hv]
          have he : (clsOf e).drop i = z.c :: (clsOf e).drop (i + 1) := by
            obtain ⟨hl, hv⟩ := List.getElem?_eq_some_iff.1 CZ.out
            rw [List.drop_eq_getElem_cons hl, hv]
          have hk := cpl_at i (clsOf d) (clsOf e) (by rw [clsOf_len]; have := N.out; have := HK.out; clear hw0 hw1 hw2 hw3; omega) (by rw [clsOf_len]; have := M.out; have := HK.out; clear hw0 hw1 hw2 hw3; omega) HI.out
          rw [hd, he, cpl_cons_ne hxz] at hk
          rw [hk, clsOf_len, clsOf_len, ← N.out, ← M.out, HK.out]
          clear hw0 hw1 hw2 hw3
          omega
        have HRI := Lib.hid hR
        clear hw0 hw1 hw2 hw3 hR
        go_wp2_with (fail)
        go_ret
        exact ⟨ret_int (by rw [HRI.out]), Y3⟩
    · have e0 : (K : Int) - 1 ≤ (i : Int) := by omega
      have e1 : decide ((i : Int) < (K : Int) - 1) = false := decide_eq_false (by omega)
      have hR : R = i := by
        rw [← HR.out]
        unfold begD
        have hk := cpl_at i (clsOf d) (clsOf e) (by rw [clsOf_len]; have := N.out; have := HK.out; omega) (by rw [clsOf_len]; have := M.out; have := HK.out; omega) HI.out
        rw [hk, clsOf_len, clsOf_len, ← N.out, ← M.out, HK.out]
        omega
      have HRI := Lib.hid hR
      clear hR
      have hw1 : IntKind.i64.wrap ((K:Int) - 1) = (K : Int) - 1 := IntWalk.i64_in _ (by have := HK.out; omega)
      have hw3 := w64_in ((K:Int) - 1) (by have := HK.out; clear hw1; omega)
      go_wp2_with (fail)
      go_quiet (fail)
      clear hw1 hw3
      go_wp2_with (fail)
      go_ret
      exact ⟨ret_int (by rw [HRI.out]), ext_trans y (ext_drew _ _)⟩
end Go.Proofs.YtfnkjcodcoehcaaGreatDoor
namespace Go.Proofs.YtfnkjcodcoehcaaGreatDoor
open Go.RowKit
set_option linter.unusedVariables false
set_option linter.unusedSimpArgs false

set_option maxRecDepth 100000 in
set_option maxHeartbeats 1600000 in
theorem end_any (A B : Option Addr) (n m c c' : Nat) (d e : List ClS) (w : World) (hn : n = d.length) (hm : m = e.length) (h1 : RdCs w w.heap.size A d) (h2 : RdCs w w.heap.size B e) (b1 : n ≤ 1000000) (b2 : m ≤ 1000000) (p1 : 1 ≤ n) (p2 : 1 ≤ m) :
    Calls Tryz.prog 81 #[.slice A n c, .slice B m c'] w (Quiet (.int .i64 (endD (clsOf d) (clsOf e))) w) := by
  have N := Lib.hid hn
  have M := Lib.hid hm
  have H1 := Lib.hid h1
  have H2 := Lib.hid h2
  obtain ⟨K, hK⟩ : ∃ K, min n m = K := ⟨_, rfl⟩
  have HK := Lib.hid hK
  have ek : min (n : Int) (m : Int) = (K : Int) := by omega
  have L1 := Lib.hid (clsOf_len d)
  have L2 := Lib.hid (clsOf_len e)
  generalize hR : endD (clsOf d) (clsOf e) = R
  have HR := Lib.hid hR
  clear hn hm h1 h2 hR hK
  go_enter Tryz.func81, Tryz.ntmps81
  go_wp2_with (fail)
  go_step3
  go_wp2_with (fail)
  go_step3
  go_wp2_with (fail)
  go_loopg [5] (K - 1) (fun g iv wr => ∃ i : Nat, 1 ≤ i ∧ i ≤ K ∧ g = K - i ∧ iv = .int .i64 (i : Int) ∧ (∃ q, wr = w.drewN q) ∧ Hid (endD (clsOf d) (clsOf e) = i + cpl (((clsOf d).reverse.drop i).map (·.r)) (((clsOf e).reverse.drop i).map (·.r))))
  case atStart => exact ⟨1, by omega, by have := HK.out; omega, rfl, rfl, ⟨0, rfl⟩, Lib.hid rfl⟩
  case round =>
    obtain ⟨i, hi1, hi, hg, rfl, ⟨q, rfl⟩, HI⟩ := hrel
    have HG := Lib.hid hg
    clear hg
    have hw2 : IntKind.i64.wrap ((i:Int) + 1) = (i : Int) + 1 := IntWalk.i64_in _ (by omega)
    by_cases hlt : i < K
    · have hl1 : n - 1 - i < d.length := by have := N.out; have := HK.out; omega
      have hl2 : m - 1 - i < e.length := by have := M.out; have := HK.out; omega
      obtain ⟨ad, x, rfl, _, _, hx, hcx⟩ := H1.out.el hl1
      obtain ⟨ad2, z, rfl, _, _, hz, hcz⟩ := H2.out.el hl2
      have EA := Lib.hid (endD_at HI.out (by rw [L1.out]; have := N.out; have := HK.out; omega) (by rw [L2.out]; have := M.out; have := HK.out; omega) (a := x.c) (b := z.c) (by rw [L1.out, ← N.out]; exact clsOf_at hx) (by rw [L2.out, ← M.out]; exact clsOf_at hz))
      obtain ⟨⟨r1, s1⟩, As1, cs1⟩ := x
      obtain ⟨⟨r2, s2⟩, As2, cs2⟩ := z
      obtain ⟨z0, -⟩ := cl_cells hcx
      obtain ⟨u0, -⟩ := cl_cells hcz
      obtain ⟨j1, hj1⟩ : ∃ X, n - 1 - i = X := ⟨_, rfl⟩
      obtain ⟨j2, hj2⟩ : ∃ X, m - 1 - i = X := ⟨_, rfl⟩
      rw [hj1] at z0
      rw [hj2] at u0
      have e3 : (n : Int) - 1 - (i : Int) = (j1 : Int) := by have := HK.out; omega
      have e4 : (m : Int) - 1 - (i : Int) = (j2 : Int) := by have := HK.out; omega
      have q1 : IntKind.i64.wrap ((n : Int) - 1) = (n : Int) - 1 := IntWalk.i64_in _ (by omega)
      have q2 : IntKind.i64.wrap ((m : Int) - 1) = (m : Int) - 1 := IntWalk.i64_in _ (by omega)
      have q3 : IntKind.i64.wrap ((n : Int) - 1 - (i : Int)) = (j1 : Int) := by rw [e3]; exact IntWalk.i64_in _ (by omega)
      have q4 : IntKind.i64.wrap ((m : Int) - 1 - (i : Int)) = (j2 : Int) := by rw [e4]; exact IntWalk.i64_in _ (by omega)
      have q5 : j1 < n := by have := HK.out; omega
      have q6 : j2 < m := by have := HK.out; omega
      have hlt' : (i : Int) < (K : Int) := by omega
      clear hcx hcz hx hz hl1 hl2 hj1 hj2 e3 e4
      by_cases hr : r1 = r2
      · subst hr
        have hne : (r1 != r1) = false := by simp
        have HI2 := Lib.hid (EA.out.2 rfl)
        clear EA HI
        go_wp2_with (fail)
        go_quiet (fail)
        go_wp2_with (fail)
        go_roundg (K - (i + 1))
        case measure => have := HG.out; omega
        case rel => exact ⟨i + 1, by omega, by omega, rfl, by go_num, ⟨_, rfl⟩, HI2⟩
      · have hne : (r1 != r2) = true := by simp [hr]
        have HI2 := Lib.hid (EA.out.1 hr)
        clear EA HI hr
        go_wp2_with (fail)
        go_quiet (fail)
        go_wp2_with (fail)
        go_ret
        exact ⟨ret_int (by rw [← HR.out, HI2.out]), _, World.drewN_drewN _ _ _⟩
    · have hlt' : ¬ (i : Int) < (K : Int) := by omega
      have HE := Lib.hid (endD_over HI.out (by rw [L1.out, L2.out]; have := N.out; have := M.out; have := HK.out; omega))
      go_wp2_with (fail)
      go_ret
      exact ⟨ret_int (by rw [← HR.out, HE.out]), _, rfl⟩
end Go.Proofs.YtfnkjcodcoehcaaGreatDoor
namespace Go.Proofs.YtfnkjcodcoehcaaGreatDoor
open Go.RowKit
set_option linter.unusedVariables false
set_option linter.unusedSimpArgs false

/-- a maker that this call has made -/
def MkIn (w wr : World) (b : Nat) (m : Mk) : Prop := ∃ F, Mkr wr F b m ∧ (∀ k, F k → w.heap.size ≤ k) ∧ Below w.heap.size w wr
theorem MkIn.out {w wr w2 : World} {b : Nat} {m2 : Mk} {F F2 : Nat → Prop} (hF : ∀ k, F k → w.heap.size ≤ k) (y : Below w.heap.size w wr) (h2 : Mkr w2 F2 b m2) (g : Grow wr F w2 F2) : MkIn w w2 b m2 :=
  ⟨F2, h2, g.low hF y.size, y.trans (g.below hF y.size)⟩
theorem MkIn.more {w wr w2 : World} {b : Nat} {m : Mk} {F : Nat → Prop} (hF : ∀ k, F k → w.heap.size ≤ k) (y : Below w.heap.size w wr) (h : Mkr wr F b m) (y2 : Below wr.heap.size wr w2) : MkIn w w2 b m :=
  ⟨F, h.below y2, hF, ext_trans y y2⟩
end Go.Proofs.YtfnkjcodcoehcaaGreatDoor
