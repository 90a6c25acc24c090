/- Merged texts. -/
import Derived.Shelf.SlSortCmp.NoneTotal
import Derived.Test.YtnmedachaeanbaaGreatDoorA7
import Derived.RegionTactic
import Derived.BigRegion
import Derived.ChangeAlike
namespace Go.Proofs.YtnmedachaeanbaaGreatDoor
set_option maxRecDepth 100000
set_option maxHeartbeats 3200000
open Go.RowKit Go.Shelf Go.Lib Go.Sort
open Go.Lib (hid)
set_option linter.unusedVariables false
set_option linter.unusedSimpArgs false
def Tryz.sortKy_ren : Go.Shelf.Ren := ⟨fun | 6 => 45 | 15 => 118 | 14 => 117 | 28 => 212 | 29 => 213 | 20 => 204 | 21 => 205 | 22 => 206 | 23 => 207 | 24 => 208 | 25 => 209 | 26 => 210 | 27 => 211 | 46 => 281 | 47 => 282 | 48 => 283 | 49 => 284 | 50 => 285 | 57 => 340 | n => n, fun | 22 => 22 | 24 => 78 | 25 => 97 | 3 => 3 | 39 => 172 | 0 => 0 | 53 => 269 | 55 => 71 | 4 => 4 | 46 => 262 | 45 => 261 | 50 => 266 | 5 => 5 | 9 => 9 | 66 => 347 | 70 => 351 | 76 => 417 | 77 => 418 | n => n, fun | n => n⟩
theorem Tryz.sortKy : Go.Proofs.SlLaysF0.n6 Tryz.prog Tryz.sortKy_ren := {
 mixed := by kernel_rfl
 f6 := ⟨Tryz.f45.name, by decide, Tryz.func45.trans (congrArg some (by kernel_rfl))⟩
 f14 := ⟨Tryz.f117.name, by decide, Tryz.func117.trans (congrArg some (by kernel_rfl))⟩
 f15 := Tryz.func118.trans (congrArg some (by kernel_rfl))
 f20 := ⟨Tryz.f204.name, by decide, Tryz.func204.trans (congrArg some (by kernel_rfl))⟩
 f21 := ⟨Tryz.f205.name, by decide, Tryz.func205.trans (congrArg some (by kernel_rfl))⟩
 f22 := ⟨Tryz.f206.name, by decide, Tryz.func206.trans (congrArg some (by kernel_rfl))⟩
 f23 := ⟨Tryz.f207.name, by decide, Tryz.func207.trans (congrArg some (by kernel_rfl))⟩
 f24 := ⟨Tryz.f208.name, by decide, Tryz.func208.trans (congrArg some (by kernel_rfl))⟩
 f25 := ⟨Tryz.f209.name, by decide, Tryz.func209.trans (congrArg some (by kernel_rfl))⟩
 f26 := ⟨Tryz.f210.name, by decide, Tryz.func210.trans (congrArg some (by kernel_rfl))⟩
 f27 := ⟨Tryz.f211.name, by decide, Tryz.func211.trans (congrArg some (by kernel_rfl))⟩
 f28 := Tryz.func212.trans (congrArg some (by kernel_rfl))
 f29 := Tryz.func213.trans (congrArg some (by kernel_rfl))
 f46 := ⟨Tryz.f281.name, by decide, Tryz.func281.trans (congrArg some (by kernel_rfl))⟩
 f47 := Tryz.func282.trans (congrArg some (by kernel_rfl))
 f48 := Tryz.func283.trans (congrArg some (by kernel_rfl))
 f49 := ⟨Tryz.f284.name, by decide, Tryz.func284.trans (congrArg some (by kernel_rfl))⟩
 f50 := ⟨Tryz.f285.name, by decide, Tryz.func285.trans (congrArg some (by kernel_rfl))⟩
 f57 := ⟨Tryz.f340.name, by decide, Tryz.func340.trans (congrArg some (by kernel_rfl))⟩
 t0 := Tryz.underlying0
 a0 := Tryz.isAgg0
 z0 := Tryz.sizeOf0
 v0 := Tryz.zeroValue0
 t3 := Tryz.underlying3
 a3 := Tryz.isAgg3
 z3 := Tryz.sizeOf3
 v3 := Tryz.zeroValue3
 t4 := Tryz.underlying4
 a4 := Tryz.isAgg4
 z4 := Tryz.sizeOf4
 v4 := Tryz.zeroValue4
 t5 := Tryz.underlying5
 a5 := Tryz.isAgg5
 z5 := Tryz.sizeOf5
 v5 := Tryz.zeroValue5
 t9 := Tryz.underlying9
 a9 := Tryz.isAgg9
 z9 := Tryz.sizeOf9
 v9 := Tryz.zeroValue9
 t22 := Tryz.underlying22
 a22 := Tryz.isAgg22
 z22 := Tryz.sizeOf22
 v22 := Tryz.zeroValue22
 t25 := Tryz.underlying97
 a25 := Tryz.isAgg97
 z25 := Tryz.sizeOf97
 v25 := Tryz.zeroValue97
 t39 := Tryz.underlying172
 a39 := Tryz.isAgg172
 z39 := Tryz.sizeOf172
 v39 := Tryz.zeroValue172
 t45 := Tryz.underlying261
 a45 := Tryz.isAgg261
 z45 := Tryz.sizeOf261
 v45 := Tryz.zeroValue261
 t46 := Tryz.underlying262
 a46 := Tryz.isAgg262
 z46 := Tryz.sizeOf262
 v46 := Tryz.zeroValue262
 t50 := Tryz.underlying266
 a50 := Tryz.isAgg266
 z50 := Tryz.sizeOf266
 v50 := Tryz.zeroValue266
 t53 := Tryz.underlying269
 a53 := Tryz.isAgg269
 z53 := Tryz.sizeOf269
 v53 := Tryz.zeroValue269
 t55 := Tryz.underlying71
 a55 := Tryz.isAgg71
 z55 := Tryz.sizeOf71
 v55 := Tryz.zeroValue71
 t66 := Tryz.underlying347
 a66 := Tryz.isAgg347
 z66 := Tryz.sizeOf347
 v66 := Tryz.zeroValue347
 t70 := Tryz.underlying351
 a70 := Tryz.isAgg351
 z70 := Tryz.sizeOf351
 v70 := Tryz.zeroValue351
 t76 := Tryz.underlying417
 a76 := Tryz.isAgg417
 z76 := Tryz.sizeOf417
 v76 := Tryz.zeroValue417
 t77 := Tryz.underlying418
 a77 := Tryz.isAgg418
 z77 := Tryz.sizeOf418
 v77 := Tryz.zeroValue418 }
def Z8a (x y : Ky) : Int := cmpI x.id y.id
theorem ltKy (x y : Ky) : ltOf Z8a x y = decide (x.id < y.id) := by
 unfold ltOf Z8a cmpI
 by_cases h1 : x.id < y.id
 ·simp [h1]
 ·by_cases h2 : y.id < x.id <;> simp [h1, h2]
theorem swoKy : SWO (ltOf Z8a) where
 irrefl x := by rw [ltKy]; simp
 trans x y z h1 h2 := by rw [ltKy] at *; simp at *; omega
 ntrans x y z h1 h2 := by rw [ltKy] at *; simp at *; omega
instance : Inhabited Ky := ⟨Ky.zero⟩
theorem Y02 (x y : Ky) (W : World) : Calls Tryz.prog 46 #[.agg #[.int .i64 x.id, .bool x.block, .int .u8 x.kind, .bool x.after, .bool x.before, .int .i64 x.group], .agg #[.int .i64 y.id, .bool y.block, .int .u8 y.kind, .bool y.after, .bool y.before, .int .i64 y.group]] W
 fun e w' => e = .returned (.int .i64 (Z8a x y)) ∧ ∃ q os', w' = grow (W.drewN q) os' := by
 unfold Z8a
 have hcon := fun W' => Z9a x.id y.id W'
 generalize cmpI x.id y.id = r at hcon ⊢
 go_enter Tryz.func46, Tryz.ntmps46
 go_wp2_with (go_at_call 47; refine (hcon _).mono ?_; rintro e w' ⟨rfl, rfl⟩)
 go_ret
 exact ⟨rfl, 0, _, by rw [alloc_eq_grow, alloc_eq_grow, grow_grow]; rfl⟩
theorem Y2h (blk off size : Nat) (w : World) : CmpLays Tryz.prog 46 #[] Ky.enc 6 Z8a blk off size w :=
 fun _ _ _ _ x y => Y02 x y _
def Y2i (A : Option Addr) (n c : Nat) (l : List Ky) (w : World) (base : Nat) (e : Ending) (w' : World) : Prop :=
 e = .returned (.tuple #[]) ∧ ∃ l' : List Ky, l'.Perm l ∧ l'.Pairwise (fun a b => a.id ≤ b.id) ∧ RdKy w' w'.heap.size A l' ∧ Below base w w' ∧ ∀ j, j < w.heap.size → (∀ k, wb (.slice A n c) = some k → k ≠ j) → w'.heap[j]? = w.heap[j]?
theorem Z8b (w : World) (blk off : Nat) (d : Array Ky) (j : Nat) (h : j ≠ blk) : (putRowK Ky.enc 6 w blk off d).heap[j]? = w.heap[j]? := by
 simp only [putRowK, putRow, mapBlock]
 rw [Array.getElem?_modify, if_neg (fun e => h e.symm)]
theorem Z3o (w : World) (blk off : Nat) (d : Array Ky) : (putRowK Ky.enc 6 w blk off d).heap.size = w.heap.size := by
 simp only [putRowK, putRow, mapBlock, Array.size_modify]
theorem Y5X {d d' : Array Ky} (h : PermIn 0 d.size d d') : d'.toList.Perm d.toList := by
 have h1 := h.1
 have h2 := h.2.2
 have e1 : d'.extract 0 d.size = d' := by rw [← h1]; simp
 have e2 : d.extract 0 d.size = d := by simp
 rw [e1, e2] at h2
 exact h2
theorem Y2j {d : Array Ky} {n : Nat} (hn : d.size = n) (h : SortedIn (ltOf Z8a) 0 n d) : d.toList.Pairwise (fun a b => a.id ≤ b.id) := by
 rw [List.pairwise_iff_getElem]
 intro i j hi hj hij
 have h2 := h i j (Nat.zero_le _) hij (by rw [← hn]; simpa using hj)
 rw [ltKy] at h2
 have hi' : i < d.size := by simpa using hi
 have hj' : j < d.size := by simpa using hj
 rw [getElem!_pos d i hi', getElem!_pos d j hj'] at h2
 simp at h2
 simpa using h2
theorem Y03 (A : Option Addr) (n c base : Nat) (l : List Ky) (w : World) (hown : OwKy w base (.slice A n c) l) (hb : n ≤ 100000000) :
 Calls Tryz.prog 45 #[.slice A n c, .func (.func 46) #[] #[]] w (Y2i A n c l w base) := by
 have eg : ∀ args w, (callFunc 46 args).run Tryz.prog w = .ok (.enter 46 args) w := enters_of Tryz.func46 (by kernel_rfl) rfl
 have none_case : l = [] → n = 0 → Calls Tryz.prog 45 #[.slice A n c, .func (.func 46) #[] #[]] w (Y2i A n c l w base) := by
  intro h1 h2
  subst h1 h2
  have hcon := AnyF.slices_SortFunc_none Tryz.sortKy A c (.func (.func 46) #[] #[]) w
  change Calls Tryz.prog 45 _ _ _ at hcon
  refine hcon.mono ?_
  rintro e w' ⟨rfl, rfl⟩
  exact ⟨rfl, [], List.Perm.refl _, List.Pairwise.nil, Rd.nil, Below.refl _ _, fun _ _ _ => rfl⟩
 rcases hown with ⟨h1, A', h2⟩ | ⟨hx, ⟨h1, h2⟩ | ⟨g, cap, cur, h1, hg, hblk, hn1, hn2, hsz, htk⟩⟩
 ·injection h2 with _ h2 _
  exact none_case h1 h2
 ·injection h1 with _ h1 _
  exact none_case (List.eq_nil_of_length_eq_zero h2) h1
 ·injection h1 with hA hnl hc
  subst hA hnl hc
  by_cases hl0 : l.length = 0
  ·exact none_case (List.eq_nil_of_length_eq_zero hl0) hl0
  have hwb : ∀ j, (∀ k, wb (.slice (some ⟨g, 0, none⟩) l.length c) = some k → k ≠ j) → j ≠ g := by
   intro j hk e
   cases c with
   | zero => omega
   | succ c => exact hk g rfl e.symm
  have hlt : g < w.heap.size := (Array.getElem?_eq_some_iff.1 hblk).1
  have hcell : ∀ j u, (l.flatMap Ky.enc)[j]? = some u → w.cell? ⟨g, j, none⟩ = some u := by
   intro j u hu
   rw [← htk] at hu
   have hj := (List.getElem?_eq_some_iff.1 hu).1
   rw [List.getElem?_take_of_lt (by rw [List.length_take] at hj; omega)] at hu
   simp only [World.cell?, hblk]
   simpa using hu
  have hH : HoldsK Ky.enc 6 w g 0 l.toArray := by
   intro j hj
   rw [size_flatK] at hj
   have hj' : j < l.length * 6 := by simpa using hj
   have hq : j / 6 < l.length := by omega
   refine ⟨?_, by simp [World.frozen?, hblk]⟩
   rw [get_flatK _ _ _ _ hj]
   simp only [id]
   have e1 : l.toArray[j / 6]! = l[j / 6] := by rw [getElem!_pos _ _ (by simpa using hq)]; simp
   rw [e1, Nat.zero_add]
   have hm : j % 6 < (Ky.enc l[j / 6]).length := by rw [Ky.enc_len]; omega
   rw [getElem!_pos (Ky.enc l[j / 6]) (j % 6) hm]
   have hf := Z3A (size := 6) Ky.enc_len l (j / 6) (j % 6) _ hq (List.getElem?_eq_getElem hm)
   rw [Nat.div_add_mod'] at hf
   exact hcell j _ hf
  have hcon := AnyQ.slices_SortFunc Tryz.sortKy 6 Tryz.isAgg78 Tryz.sizeOf78 Ky.enc Ky.enc_len Ky.enc_one Z8a swoKy 46 #[] g 0 c l.toArray w eg (Y2h g 0 _ w) hH hlt (by simp; omega)
  change Calls Tryz.prog 45 _ _ _ at hcon
  rw [List.size_toArray] at hcon
  refine hcon.mono ?_
  rintro e w' ⟨rfl, d', q, os, hp, hs, rfl⟩
  have hsize : d'.size = l.length := by simpa using hp.1
  have hH' : HoldsK Ky.enc 6 (sortWorldK Ky.enc 6 w g 0 q d' os) g 0 d' :=
   holdsK_grow Ky.enc 6 _ os g 0 d' (by rw [Z3o]; exact hlt) (holdsK_putRowK Ky.enc 6 (Sort.ahead w q) g 0 l.toArray d' hH (by simpa using hsize))
  have hheap : ∀ j, j < w.heap.size → j ≠ g → (sortWorldK Ky.enc 6 w g 0 q d' os).heap[j]? = w.heap[j]? := by
   intro j hj hne
   unfold sortWorldK
   rw [heap_grow_old _ _ (by rw [Z3o]; exact hj), Z8b _ _ _ _ _ hne]
   rfl
  have hsz2 : w.heap.size ≤ (sortWorldK Ky.enc 6 w g 0 q d' os).heap.size := by
   have : (sortWorldK Ky.enc 6 w g 0 q d' os).heap.size = (putRowK Ky.enc 6 (Sort.ahead w q) g 0 d').heap.size + os.size := by simp [sortWorldK, grow]
   rw [this, Z3o]
   exact Nat.le_add_right _ _
  refine ⟨rfl, d'.toList, by simpa using Y5X (d := l.toArray) (by simpa using hp), Y2j hsize hs, ?_, ⟨rfl, rfl, rfl, hsz2, fun j hj => hheap j (by omega) (by omega)⟩, fun j hj hne => hheap j hj (hwb j hne)⟩
  intro hl
  refine ⟨_, rfl, Nat.lt_of_lt_of_le hlt hsz2, fun i hi => ?_⟩
  intro j u hu
  have hi' : i < d'.size := by simpa using hi
  have hj6 : j < 6 := by have := (List.getElem?_eq_some_iff.1 hu).1; rw [Ky.enc_len] at this; exact this
  have h3 := (HoldsK.cell hH' hi' hj6).1
  have e3 : (Ky.enc d'[i]!)[j]! = u := by
   rw [getElem!_pos d' i hi', getElem!_pos (Ky.enc d'[i]) j (by rw [Ky.enc_len]; exact hj6)]
   have h4 := List.getElem?_eq_some_iff.1 hu
   obtain ⟨_, h4⟩ := h4
   simpa using h4
  rw [e3, Nat.zero_add] at h3
  rw [Z30]
  have ea : (⟨g, 0, none⟩ : Addr).add (i * 6 + j) = ⟨g, i * 6 + j, none⟩ := by
   unfold Addr.add
   split
   ·rename_i h0; rw [h0]
   ·simp
  rw [ea]
  exact h3
open Go.RowKit
section
variable {α : Type} {enc : α → List Value} {size : Nat} {e : TypeId} {w : World} {base n c : Nat} {A : Option Addr} {l : List α}
theorem Ow.cap (h : Ow enc size e w base (.slice A n c) l) : l.length ≤ c ∧ c ≤ maxLen := by
 obtain ⟨_, _, ev, hle, hcm⟩ := h.form
 injection ev with _ _ ev
 exact ⟨by omega, by omega⟩
end
open Go.RowKit
set_option linter.unusedVariables false
section
variable {α : Type} {enc : α → List Value} {size : Nat} {e : TypeId} {w w' : World} {base n c : Nat} {l : List α} {P : Program}
theorem Z8c (hs : ∀ a, (enc a).length = size) (l : List α) (i : Nat) : (l.flatMap enc).take (i * size) = (l.take i).flatMap enc := by
 induction l generalizing i with
 | nil => simp
 | cons a l ih =>
   cases i with
   | zero => simp
   | succ i =>
     simp only [List.flatMap_cons, List.take_succ_cons]
     rw [List.take_append, hs, Nat.add_mul, Nat.one_mul, List.take_of_length_le (by rw [hs]; omega), Nat.add_sub_cancel, ih]
theorem Y2k (hs : ∀ a, (enc a).length = size) (l : List α) (i : Nat) : (l.flatMap enc).drop (i * size) = (l.drop i).flatMap enc := by
 induction l generalizing i with
 | nil => simp
 | cons a l ih =>
   cases i with
   | zero => simp
   | succ i =>
     simp only [List.flatMap_cons, List.drop_succ_cons]
     rw [List.drop_append, hs, Nat.add_mul, Nat.one_mul, List.drop_of_length_le (by rw [hs]; omega), Nat.add_sub_cancel, ih]
     rfl
theorem Ow.row {A : Option Addr} (h : Ow enc size e w base (.slice A n c) l) (hl : 0 < l.length) :
 ∃ g cur, A = some ⟨g, 0, none⟩ ∧ n = l.length ∧ base ≤ g ∧ w.heap[g]? = some (.cells cur e (0, 0)) ∧ l.length ≤ c ∧ c ≤ maxLen ∧ cur.size = c * size ∧ cur.toList.take (l.length * size) = l.flatMap enc := by
 rcases h with ⟨rfl, _⟩ | ⟨_, ⟨_, h0⟩ | ⟨g, cap, cur, hv, hb, hg, h1, h2, h3, h4⟩⟩
 ·simp at hl
 ·omega
 ·injection hv with hA hn hc
  subst hA; subst hn; subst hc
  exact ⟨g, cur, rfl, rfl, hb, hg, h1, h2, h3, h4⟩
theorem Z52 (g i : Nat) : (⟨g, 0, none⟩ : Addr).add i = ⟨g, i, none⟩ := by
 unfold Addr.add
 split
 ·rename_i h; rw [h]
 ·simp
theorem Z9b (t : TypeId) (i0 : TypeInfo) (hi : P.info? t = some i0) (hsz : i0.size = size) (hs : ∀ a, (enc a).length = size) (h1 : ∀ a, ∀ u ∈ enc a, u.oneCell' = true)
 {A : Option Addr} (h : Ow enc size e w base (.slice A n c) l) {i : Nat} (hil : i < l.length) (b : α) {cs : Array Value} (hcs : cs.toList = enc b) {p : Addr} (hp : A.map (·.add (i * size)) = some p) :
 ∃ w', (Instr.storeAt t (.pointer (some p)) (.agg cs)).run P w = .ok () w' ∧ Ow enc size e w' base (.slice A n c) (l.set i b) ∧ w.grownBy w' (wb (.slice A n c)) := by
 obtain ⟨g, cur, rfl, hn, hb, hg, hlc, hcm, hcur, htake⟩ := h.row (by omega)
 simp only [Option.map_some, Z52, Option.some.injEq] at hp
 subst hp
 have hcsz : cs.size = size := by rw [← Array.length_toList, hcs, hs]
 have hfit : i * size + 0 + (enc b).length ≤ cur.size := by
  rw [hs, hcur, Nat.add_zero, ← Nat.succ_mul]
  exact Nat.mul_le_mul_right _ (by omega)
 have hst := run_storeCells_at P g (i * size) e (enc b) 0 cur w hg hfit (h1 b)
 refine ⟨w.setRow g (cur.toList.take (i * size + 0) ++ enc b ++ cur.toList.drop (i * size + 0 + (enc b).length)).toArray, ?_, ?_, ?_⟩
 ·simp [Instr.storeAt, Instr.sureAddr, storeVar, sizeOf, typeInfo, hi, hsz, Value.cells, hcsz, hcs]
  simpa using hst
 ·refine .inr ⟨by rw [Z2v hs], .inr ⟨g, c, _, by rw [hn, List.length_set], hb, setRow_heap w g cur _ e _ hg, by rw [List.length_set]; exact hlc, hcm, ?_, ?_⟩⟩
  ·simp only [List.size_toArray, List.length_append, List.length_take, List.length_drop, Array.length_toList]
   omega
  ·rw [List.length_set, Nat.add_zero]
   have e1 : (l.set i b).flatMap enc = (l.take i).flatMap enc ++ (enc b ++ (l.drop (i + 1)).flatMap enc) := by
    rw [List.set_eq_take_append_cons_drop, if_pos hil, List.flatMap_append, List.flatMap_cons]
   have hle : i * size ≤ l.length * size := Nat.mul_le_mul_right _ (by omega)
   have hle2 : (i + 1) * size ≤ l.length * size := Nat.mul_le_mul_right _ hil
   have e2 : cur.toList.take (i * size) = (l.take i).flatMap enc := by
    rw [← Z8c hs, ← htake, List.take_take, Nat.min_eq_left hle]
   have e3 : (cur.toList.drop ((i + 1) * size)).take (l.length * size - (i + 1) * size) = (l.drop (i + 1)).flatMap enc := by
    rw [← Y2k hs, ← htake, List.drop_take]
   rw [e1, ← e2, ← e3]
   simp only [List.append_assoc]
   have hl1 : (cur.toList.take (i * size)).length = i * size := by
    rw [List.length_take, Array.length_toList, hcur, Nat.min_eq_left]
    exact Nat.le_trans hle (Nat.mul_le_mul_right _ hlc)
   rw [List.take_append, hl1, List.take_of_length_le (by rw [hl1]; exact hle), List.take_append, hs, List.take_of_length_le (l := enc b) (by rw [hs]; rw [Nat.succ_mul] at hle2; omega)]
   congr 3
   ·rw [Nat.succ_mul]; omega
   ·rw [Nat.succ_mul]
 ·refine ⟨rfl, rfl, rfl, by simp, fun k _ hk => setRow_other w g k _ (fun e => hk ?_)⟩
  have : 0 < c := by omega
  cases c with
  | zero => omega
  | succ c => simp [wb, e]
theorem Z7x (t ty : TypeId) (ht : P.underlying t = some (.slice e)) (i0 : TypeInfo) (z : Value) (hi : P.info? e = some i0) (hz : i0.zero = some z) (hzs : z.cells.size = size) (hzo : ∀ u ∈ z.cells.toList, u.oneCell' = true) (hs : ∀ a, (enc a).length = size)
 {A X : Option Addr} (h : Ow enc size e w base (.slice A n c) l) {i k : Nat} (hil : i ≤ l.length) (hX : l.length - i = 0 ∨ X = A.map (·.add (i * size))) :
 ∃ w', (Builtin.clear_ #[t] ty #[.slice X (l.length - i) k]).run P w = .ok (.tuple #[]) w' ∧ Ow enc size e w' base (.slice A i c) (l.take i) ∧ w.grownBy w' (wb (.slice A n c)) := by
 rcases Nat.eq_zero_or_pos (l.length - i) with h0 | h0
 ·have hli : l.take i = l := List.take_of_length_le (by omega)
  have hil' : i = l.length := by omega
  refine ⟨w, ?_, ?_, World.grownBy.refl w _⟩
  ·rw [h0]
   cases X <;> simp [Builtin.clear_, run_underlying ht]
  ·rw [hli, hil']
   rcases Nat.eq_zero_or_pos l.length with hz0 | hp
   ·have hnil : l = [] := List.eq_nil_of_length_eq_zero hz0
    subst hnil
    rcases h with ⟨_, A', hv⟩ | ⟨h1, ⟨hv, hn⟩ | ⟨g, cap, cur, hv, r⟩⟩
    ·injection hv with a b c; subst a; subst b; subst c; exact .inl ⟨rfl, _, rfl⟩
    ·injection hv with a b c; subst a; subst b; subst c; exact .inl ⟨rfl, _, rfl⟩
    ·injection hv with a b c; subst a; subst b; subst c; exact .inr ⟨h1, .inr ⟨g, _, cur, rfl, r⟩⟩
   ·obtain ⟨g, cur, rfl, hn, r⟩ := h.row hp
    rw [← hn]; exact h
 ·obtain ⟨g, cur, rfl, hn, hb, hg, hlc, hcm, hcur, htake⟩ := h.row (by omega)
  rcases hX with hX | rfl
  ·omega
  have hzl : (Builtin.zeroCells z.cells (l.length - i)).toList.length = (l.length - i) * size := by rw [Array.length_toList, size_zeroCells, hzs]
  have hzo' : ∀ u ∈ (Builtin.zeroCells z.cells (l.length - i)).toList, u.oneCell' = true := by
   intro u hu
   simp only [Builtin.zeroCells, Array.toList_map, List.mem_map, Array.mem_toList_iff] at hu
   obtain ⟨j, _, rfl⟩ := hu
   have hpos : 0 < z.cells.size := by
    rcases Nat.eq_zero_or_pos z.cells.size with hz0 | hp
    ·rename_i hj; rw [hz0, Nat.mul_zero] at hj; simp at hj
    ·exact hp
   have hlt : j % z.cells.size < z.cells.size := Nat.mod_lt _ hpos
   rw [getElem!_pos z.cells _ hlt]
   exact hzo _ (Array.getElem_mem_toList hlt)
  have hfit : i * size + 0 + (Builtin.zeroCells z.cells (l.length - i)).toList.length ≤ cur.size := by
   rw [hzl, hcur, Nat.add_zero, ← Nat.add_mul]
   exact Nat.mul_le_mul_right _ (by omega)
  have hst := run_storeCells_at P g (i * size) e _ 0 cur w hg hfit hzo'
  refine ⟨w.setRow g (cur.toList.take (i * size + 0) ++ (Builtin.zeroCells z.cells (l.length - i)).toList ++ cur.toList.drop (i * size + 0 + (Builtin.zeroCells z.cells (l.length - i)).toList.length)).toArray, ?_, ?_, ?_⟩
  ·obtain ⟨m, hm⟩ : ∃ m, l.length - i = m + 1 := ⟨l.length - i - 1, by omega⟩
   rw [hm] at hst ⊢
   simp [Builtin.clear_, run_underlying ht, zeroValue, typeInfo, hi, hz, Z52]
   simp at hst
   rw [hst]
   simp
  ·refine .inr ⟨by rw [Z2v hs], .inr ⟨g, c, _, by rw [List.length_take, Nat.min_eq_left hil], hb, setRow_heap w g cur _ e _ hg, by rw [List.length_take]; omega, hcm, ?_, ?_⟩⟩
   ·simp only [List.size_toArray, List.length_append, List.length_take, List.length_drop, Array.length_toList]
    rw [Array.length_toList] at hfit
    omega
   ·have hle : i * size ≤ l.length * size := Nat.mul_le_mul_right _ hil
    have hle3 : i * size ≤ cur.size := by rw [hcur]; exact Nat.le_trans hle (Nat.mul_le_mul_right _ hlc)
    rw [List.length_take, Nat.min_eq_left hil, Nat.add_zero]
    simp only [List.append_assoc]
    rw [List.take_append, List.length_take, Array.length_toList, Nat.min_eq_left hle3, Nat.sub_self, List.take_zero, List.append_nil, List.take_of_length_le (by rw [List.length_take]; omega), ← Z8c hs, ← htake, List.take_take, Nat.min_eq_left hle]
  ·refine ⟨rfl, rfl, rfl, by simp, fun k _ hk => setRow_other w g k _ (fun e => hk ?_)⟩
   have : 0 < c := by omega
   cases c with
   | zero => omega
   | succ c => simp [wb, e]
theorem Z2D {ops : Array Oper} {rest : List Oper} {o : Oper} {a : Act} {Q : Exit → Act → World → Prop} (hgd : o.guard = none) (t : TypeId) (x y : Operand) (ho : o.op = .store t x y) (hdst : o.dst = none)
 (i0 : TypeInfo) (hi : P.info? t = some i0) (hsz : i0.size = size) (hs : ∀ a, (enc a).length = size) (h1 : ∀ a, ∀ u ∈ enc a, u.oneCell' = true)
 {A : Option Addr} (h : Ow enc size e w base (.slice A n c) l) {i : Nat} (hil : i < l.length) (b : α) {cs : Array Value} (hcs : cs.toList = enc b) {p : Addr} (hp : A.map (·.add (i * size)) = some p)
 (hx : a.eval x = .pointer (some p)) (hy : a.eval y = .agg cs)
 (hK : ∀ w', Ow enc size e w' base (.slice A n c) (l.set i b) → w.grownBy w' (wb (.slice A n c)) → wpList P ops Q rest a w') : wpList P ops Q (o :: rest) a w :=
 wpList_plain hgd fun K hK' => by
  obtain ⟨w', hr, h2, h3⟩ := Z9b (P := P) t i0 hi hsz hs h1 h hil b hcs hp
  unfold Oper.wp execOp
  simp only [ho, hx, hy, hr, Sem.run_bind, Sem.run_pure, Result.andThen_ok]
  refine hK' _ _ ?_
  have := hK w' h2 h3
  simpa [Act.put, hdst] using this
theorem Z02 {ops : Array Oper} {rest : List Oper} {o : Oper} {a : Act} {Q : Exit → Act → World → Prop} (hgd : o.guard = none) (x : Operand) (t : TypeId)
 (ho : o.op = .call { callee := .builtin .clear, args := #[x], argTypes := #[t] }) (hdst : o.dst = none)
 (ht : P.underlying t = some (.slice e)) (i0 : TypeInfo) (z : Value) (hi : P.info? e = some i0) (hz : i0.zero = some z) (hzs : z.cells.size = size) (hzo : ∀ u ∈ z.cells.toList, u.oneCell' = true) (hs : ∀ a, (enc a).length = size)
 {A X : Option Addr} (h : Ow enc size e w base (.slice A n c) l) {i k : Nat} (hil : i ≤ l.length) (hX : l.length - i = 0 ∨ X = A.map (·.add (i * size))) {m : Nat} (hm : m = l.length - i) (hx : a.eval x = .slice X m k)
 (hK : ∀ w', Ow enc size e w' base (.slice A i c) (l.take i) → w.grownBy w' (wb (.slice A n c)) → wpList P ops Q rest a w') : wpList P ops Q (o :: rest) a w :=
 wpList_plain hgd fun K hK' => by
  subst hm
  obtain ⟨w', hr, h2, h3⟩ := Z7x (P := P) t o.type ht i0 z hi hz hzs hzo hs h (k := k) hil hX
  unfold Oper.wp execOp
  simp only [ho, resolve, invoke, builtin, Sem.run_bind, Sem.run_pure, Result.andThen_ok, List.map_toArray, List.map_cons, List.map_nil, hx, hr]
  refine hK' _ _ ?_
  have := hK w' h2 h3
  simpa [Act.put, hdst] using this
end
open Go.RowKit
set_option linter.unusedVariables false
set_option linter.unusedSimpArgs false
theorem Z9c (A : Option Addr) (n c : Nat) (l : List Ky) (w : World) (hn : n = l.length) (h : RdKy w w.heap.size A l) (hb : n ≤ 100000000) :
 Calls Tryz.prog 43 #[.slice A n c] w (NewKy l w) := by
 cases A with
 | none =>
   have hl : l = [] := by
    cases l with
    | nil => rfl
    | cons a l => obtain ⟨ad, e, _⟩ := h (by simp); cases e
   subst hl
   have hn0 : n = 0 := by simpa using hn
   subst hn0
   clear hn
   have hq := fun (w : World) => Lib.run_eql_slice_nil (P := Tryz.prog) w 22 78 none 0 c 0 0 Tryz.slKy
   go_enter Tryz.func43, Tryz.ntmps43
   go_wp2_with (fail)
   go_ret
   exact ⟨none, 0, rfl, Ow.nil _ _, Below.refl _ _⟩
 | some ad =>
   have N := hid hn
   clear hn
   have hq := fun (w : World) => Lib.run_eql_slice_nil (P := Tryz.prog) w 22 78 (some ad) n c 0 0 Tryz.slKy
   go_enter Tryz.func43, Tryz.ntmps43
   go_wp2_with (first
    | (at_builtin; refine Y6G (m := l) rfl (.tmp 5) (.tmp 6) rfl rfl (by exact Ow.empty _ w.heap.size _) _ _ _ _ rfl N.out (by exact h.ext (Z0c w _)) (by have := N.out; simp only [List.length_nil]; omega) (by simp) ?_; intro v' w' hown' hgr hv'))
   rw [List.nil_append] at hown'
   obtain ⟨A', c', rfl, _, _⟩ := hown'.form
   go_ret
   exact ⟨A', c', rfl, hown', (Z0c w _).grown hgr (by simp) (fun k hk => by cases hk)⟩
theorem MapK.drew {w : World} {b : Nat} {l : List Ky} (h : MapK w b l) : MapK w.drew b l := h
def Y5w (l : List Ky) (w : World) (e : Ending) (w' : World) : Prop :=
 Below w.heap.size w w' ∧ ((Y2g l = true ∧ ∃ s, e = .returned (.tuple #[.pointer (some ⟨s, 0, none⟩), .int .i64 0]) ∧ Sch w' s l) ∨ (Y2g l = false ∧ e = .returned (.tuple #[.pointer none, .int .i64 3])))
theorem Y5Y (A : Option Addr) (n c : Nat) (l : List Ky) (w : World) (hn : n = l.length) (h : RdKy w w.heap.size A l) (hb : n ≤ 140737488355328) :
 Calls Tryz.prog 9 #[.slice A n c] w (Y5w l w) := by
 have N := hid hn
 generalize hR : Y2g l = R
 have HR := hid hR
 clear hn hR
 unfold Y5w
 rw [HR.out]
 by_cases h64 : (64 : Int) < (n : Int)
 ·go_enter Tryz.func9, Tryz.ntmps9
  go_wp2_with (fail)
  have hf : R = false := by
   rw [← HR.out]
   have := N.out
   simp [Y2g]; omega
  refine bodyPost_ret (v := .tuple #[.pointer none, .int .i64 3]) (by simp [results, Tryz.results9, go_sem]) rfl ?_
  exact ⟨Below.refl _ _, .inr ⟨hf, rfl⟩⟩
 have HP : Hid (Y01 [] l = R) := hid (by rw [← HR.out]; have := N.out; simp [Y2g]; intro h; omega)
 have hmm := @run_makeMap Tryz.prog
 go_enter Tryz.func9, Tryz.ntmps9
 go_wp2_with (go_at_call 43; refine Hid.out ?_)
 refine hid ?_
 refine (Z9c A n c l w N.out h (by omega)).mono ?_
 rintro e w1 ⟨A', c', rfl, hown, y1⟩
 have HOW := hid hown
 clear hown
 go_wp2_with (fail)
 go_loopg [19] n (fun g iv wr => ∃ m : Nat, m ≤ n ∧ g = n - m ∧ iv = .int .i64 (m : Int) ∧ Below w.heap.size w wr ∧ w1.heap.size + 2 ≤ wr.heap.size ∧ wr.heap[w1.heap.size + 1]? = some (.cells #[.slice A' l.length c', .map (some w1.heap.size)] 93 (0, 0)) ∧ MapK wr w1.heap.size (l.take m) ∧ OwKy wr w.heap.size (.slice A' l.length c') l ∧ Hid (Y01 (l.take m) (l.drop m) = R))
 case atStart =>
  have ya := Z0c w1 (.map #[] 0)
  have yb := Z0c (w1.alloc (.map #[] 0)) (.cells #[.slice A' l.length c', .map (some w1.heap.size)] 93)
  have hm0 := heap_alloc_new w1 (.map #[] 0)
  have hb0 := heap_alloc_new (w1.alloc (.map #[] 0)) (.cells #[.slice A' l.length c', .map (some w1.heap.size)] 93)
  rw [World.size_alloc] at hb0
  refine ⟨0, by omega, rfl, rfl, Z0a y1 (Z0a ya yb), by simp, hb0, ⟨#[], 0, (yb.block _ (by simp)).trans hm0, by simp⟩, (HOW.out.alloc _).alloc _, hid (by rw [List.drop_zero, List.take_zero]; exact HP.out)⟩
 case round =>
  obtain ⟨m, hm, hg, rfl, y, hs2, hbx, hmk, how, HI⟩ := hrel
  have HG := hid hg
  clear hg HR HP
  by_cases hlt : m < n
  ·have hl1 : m < l.length := by have := N.out; omega
   obtain ⟨ad, x, rfl, had, hd1, hx1, hc0⟩ := (h.below y (Nat.le_refl _)).el hl1
   obtain ⟨x1, x2, x3, x4, x5, x6⟩ := x
   obtain ⟨r0, r1, r2, r3, r4, r5⟩ := Z9P hc0
   have HI2 : Hid ((mayK ⟨x1, x2, x3, x4, x5, x6⟩ && (Z0N (l.take m) x1).isNone && Y01 (l.take (m + 1)) (l.drop (m + 1))) = R) := hid (by
    rw [← HI.out, hd1]
    simp only [Y01]
    rw [List.take_add_one, hx1]; rfl)
   have HX := hid hx1
   have y2 := Z0c wr (.cells #[.int .i64 x1, .bool x2, .int .u8 x3, .bool x4, .bool x5, .int .i64 x6] 78)
   have hk2 := heap_alloc_new wr (.cells #[.int .i64 x1, .bool x2, .int .u8 x3, .bool x4, .bool x5, .int .i64 x6] 78)
   have hb2 := (y2.block _ (Z0b hbx)).trans hbx
   have hmk2 := hmk.ext y2
   have how2 := how.alloc (.cells #[.int .i64 x1, .bool x2, .int .u8 x3, .bool x4, .bool x5, .int .i64 x6] 78)
   obtain ⟨b0, b1⟩ := Y0S hb2
   obtain ⟨k0, k1, k2, k3, k4, k5⟩ := Z6K hk2
   have HMK := hid hmk2
   have HB2 := hid hb2
   have HK2 := hid hk2
   have HOW2 := hid how2
   have y3 := Z0c (wr.alloc (.cells #[.int .i64 x1, .bool x2, .int .u8 x3, .bool x4, .bool x5, .int .i64 x6] 78)) (.cells #[.int .i64 0, .bool false, .int .u8 0, .bool false, .bool false, .int .i64 0] 78)
   have hb3 := (y3.block _ (Z0b hb2)).trans hb2
   have hk3 := (y3.block _ (Z0b hk2)).trans hk2
   have hmk3 := hmk2.ext y3
   obtain ⟨b0', b1'⟩ := Y0S hb3
   obtain ⟨k0', -⟩ := Z6K hk3
   have hl := hmk2.drew.look x1
   have hl' := hmk3.drew.look x1
   have hz3 := heap_alloc_new (wr.alloc (.cells #[.int .i64 x1, .bool x2, .int .u8 x3, .bool x4, .bool x5, .int .i64 x6] 78)) (.cells #[.int .i64 0, .bool false, .int .u8 0, .bool false, .bool false, .int .i64 0] 78)
   clear hb3 hk3 hmk3
   generalize (Z0N (l.take m) x1).getD Ky.zero = F at hl hl'
   generalize hF2 : (Z0N (l.take m) x1).isSome = G at hl hl'
   obtain ⟨z1, z2, z3, z4, z5, z6⟩ := F
   simp only [Ky.val] at hl hl'
   have HF2 := hid hF2
   clear hF2
   clear hc0 hd1 hx1 HI hmk hmk2 hbx hb2 hk2 how how2
   go_wp2_with (fail)
   go_big_region
   all_goals
    have y5 := Z0a y2 (Z0c (wr.alloc (.cells #[.int .i64 x1, .bool x2, .int .u8 x3, .bool x4, .bool x5, .int .i64 x6] 78)) (.cells #[.int .i64 z1, .bool z2, .int .u8 z3, .bool z4, .bool z5, .int .i64 z6] 78))
    have y5 : Below wr.heap.size wr ((wr.alloc (.cells #[.int .i64 x1, .bool x2, .int .u8 x3, .bool x4, .bool x5, .int .i64 x6] 78)).alloc (.cells #[.int .i64 z1, .bool z2, .int .u8 z3, .bool z4, .bool z5, .int .i64 z6] 78)).drew := y5.drew
    have y6 : Below (wr.alloc (.cells #[.int .i64 x1, .bool x2, .int .u8 x3, .bool x4, .bool x5, .int .i64 x6] 78)).heap.size (wr.alloc (.cells #[.int .i64 x1, .bool x2, .int .u8 x3, .bool x4, .bool x5, .int .i64 x6] 78)) ((wr.alloc (.cells #[.int .i64 x1, .bool x2, .int .u8 x3, .bool x4, .bool x5, .int .i64 x6] 78)).alloc (.cells #[.int .i64 z1, .bool z2, .int .u8 z3, .bool z4, .bool z5, .int .i64 z6] 78)).drew := (Z0c (wr.alloc (.cells #[.int .i64 x1, .bool x2, .int .u8 x3, .bool x4, .bool x5, .int .i64 x6] 78)) (.cells #[.int .i64 z1, .bool z2, .int .u8 z3, .bool z4, .bool z5, .int .i64 z6] 78)).drew
    generalize ((wr.alloc (.cells #[.int .i64 x1, .bool x2, .int .u8 x3, .bool x4, .bool x5, .int .i64 x6] 78)).alloc (.cells #[.int .i64 z1, .bool z2, .int .u8 z3, .bool z4, .bool z5, .int .i64 z6] 78)).drew = w5 at *
    have hb5 := (y6.block _ (Z0b HB2.out)).trans HB2.out
    have hk5 := (y6.block _ (Z0b HK2.out)).trans HK2.out
    have hmk5 := HMK.out.ext y6
    have how5 := HOW2.out.below y6 (Nat.le_refl _)
    obtain ⟨b0, b1⟩ := Y0S hb5
    obtain ⟨k0, k1, k2, k3, k4, k5⟩ := Z6K hk5
    cases G with
    | true =>
      go_wp2_with (fail)
      refine bodyPost_ret (v := .tuple #[.pointer none, .int .i64 3]) (by simp [results, Tryz.results9, go_sem]) rfl ?_
      refine ⟨Z0a y y5, .inr ⟨?_, rfl⟩⟩
      have h2 := HF2.out
      rw [← HI2.out]
      cases hq : Z0N (l.take m) x1 with
      | none => rw [hq] at h2; cases h2
      | some q => simp
    | false =>
      have hnone : Z0N (l.take m) x1 = none := by
       have h2 := HF2.out
       cases hq : Z0N (l.take m) x1 with
       | none => rfl
       | some q => rw [hq] at h2; cases h2
      have HNO := hid hnone
      have HB5 := hid hb5
      have HK5 := hid hk5
      have HM5 := hid hmk5
      have HO5 := hid how5
      clear hnone hb5 hk5 hmk5 how5
      go_wp2_with (go_at_call 44; refine Hid.out ?_)
      refine hid ?_
      refine (Y33 x1 x6 x3 x2 x4 x5 w5).mono ?_
      rintro e w6 ⟨rfl, y7⟩
      generalize hmay : mayK ⟨x1, x2, x3, x4, x5, x6⟩ = M
      have HMA := hid hmay
      clear hmay b0 b1 k0 k1 k2 k3 k4 k5
      have hb6 := (y7.block _ (Z0b HB5.out)).trans HB5.out
      have hk6 := (y7.block _ (Z0b HK5.out)).trans HK5.out
      have hmk6 := HM5.out.ext y7
      have how6 := HO5.out.below y7 (Nat.le_refl _)
      have HO6 := hid how6
      have HB6 := hid hb6
      obtain ⟨b0, b1⟩ := Y0S hb6
      obtain ⟨k0, k1, k2, k3, k4, k5⟩ := Z6K hk6
      cases M with
      | false =>
        go_wp2_with (fail)
        refine bodyPost_ret (v := .tuple #[.pointer none, .int .i64 3]) (by simp [results, Tryz.results9, go_sem]) rfl ?_
        refine ⟨Z0a y (Z0a y5 y7), .inr ⟨?_, rfl⟩⟩
        rw [← HI2.out, HMA.out]; simp
      | true =>
        obtain ⟨w7, hrun, hm7, hh7, hs7, ho7, ht7, hu7⟩ := hmk6.drew.store ⟨x1, x2, x3, x4, x5, x6⟩ HNO.out
        simp only [Ky.val] at hrun
        clear hb6 hk6 hmk6 how6
        go_wp2_with (fail)
        go_region
        have hw2 : IntKind.i64.wrap ((m:Int) + 1) = (m : Int) + 1 := IntWalk.i64_in _ (by omega)
        go_wp2_with (fail)
        go_roundg (n - (m + 1))
        case measure => have := HG.out; omega
        case rel =>
         have hws := y1.size
         have hB : w.heap.size ≤ w6.drew.heap.size := (Z0a y (Z0a y5 y7)).size
         have e67 : Below w.heap.size w6.drew w7 := ⟨ho7, ht7, hu7, by rw [hs7]; exact Nat.le_refl _, fun k hk => hh7 k (by omega)⟩
         have hsz6 : w5.heap.size ≤ w6.heap.size := y7.size
         have hsz5 : wr.heap.size ≤ w5.heap.size := y5.size
         refine ⟨m + 1, by omega, rfl, by go_num, (Z0a y (Z0a y5 y7)).drew.trans e67, ?_, (hh7 _ (by omega)).trans HB6.out, ?_, ?_, hid (by rw [← HI2.out, HMA.out, HNO.out]; simp)⟩
         ·rw [hs7]
          show w1.heap.size + 2 ≤ w6.heap.size
          omega
         ·rw [List.take_add_one, HX.out]
          exact hm7
         ·refine HO6.out.drew.keep fun k hk => hh7 k ?_
          have := (HOW.out.wb_lt k hk).2
          omega
  ·have hmn : m = n := by omega
   have hfull : l.take m = l := List.take_of_length_le (by have := N.out; omega)
   have hR : R = true := by rw [← HI.out, List.drop_eq_nil_of_le (by have := N.out; omega)]; rfl
   have hRT := hid hR
   have HF := hid hfull
   obtain ⟨b0, b1⟩ := Y0S hbx
   have HB := hid hbx
   have HM := hid hmk
   have HO := hid how
   clear hR hfull hbx hmk how
   go_wp2_with (go_at_call 45; refine Hid.out ?_)
   refine hid ?_
   refine (Y03 A' l.length c' w.heap.size l wr HO.out (by have := N.out; omega)).mono ?_
   rintro e w2 ⟨rfl, ls, hp, hs, hr, y2, hk⟩
   have hwb : ∀ j, w1.heap.size ≤ j → j < wr.heap.size → w2.heap[j]? = wr.heap[j]? := fun j hj hj2 => hk j hj2 (fun k hk2 => by have := (HOW.out.wb_lt k hk2).2; omega)
   have hb2 := (hwb (w1.heap.size + 1) (by omega) (by omega)).trans HB.out
   have hm2 := HM.out
   rw [HF.out] at hm2
   have hm2 := hm2.keep (hwb w1.heap.size (by omega) (by omega))
   have HH : Hid (Sch w2 (w1.heap.size + 1) l) := hid ⟨w1.heap.size, A', l.length, c', ls, hb2, hm2, hp.length_eq.symm, hp, hs, hr⟩
   have yy := y.trans y2
   clear hp hs hr hk hwb hb2 hm2 b0 b1
   go_wp2_with (fail)
   refine bodyPost_ret (v := .tuple #[.pointer (some ⟨w1.heap.size + 1, 0, none⟩), .int .i64 0]) (by simp [results, Tryz.results9, go_sem]) rfl ?_
   exact ⟨yy, .inl ⟨hRT.out, _, rfl, HH.out⟩⟩
end Go.Proofs.YtnmedachaeanbaaGreatDoor
