/- slices.SortFunc at a schema's keys: how the program bears it, its closure, and what it answers. -/
import Derived.Test.YtfnkjcodcoehcaaKey
import Derived.Test.YtfnkjcodcoehcaaFind
import Derived.Shelf.SlSortCmp.NoneTotal
namespace Go.Proofs.Ytfnkjcodcoehcaa
open Go.RowKit Go.Shelf Go.Lib Go.Sort
set_option linter.unusedVariables false
set_option linter.unusedSimpArgs false

def Try.sortKy_ren : Go.Shelf.Ren := ⟨fun | 6 => 22 | 15 => 48 | 14 => 47 | 28 => 68 | 29 => 69 | 20 => 60 | 21 => 61 | 22 => 62 | 23 => 63 | 24 => 64 | 25 => 65 | 26 => 66 | 27 => 67 | 46 => 75 | 47 => 76 | 48 => 77 | 49 => 78 | 50 => 79 | 57 => 82 | n => n, fun | 22 => 22 | 24 => 53 | 25 => 64 | 3 => 3 | 39 => 85 | 0 => 0 | 53 => 102 | 55 => 45 | 4 => 4 | 46 => 96 | 45 => 95 | 50 => 68 | 5 => 5 | 9 => 9 | 66 => 107 | 70 => 111 | 76 => 114 | 77 => 115 | n => n, fun | n => n⟩
theorem Try.sortKy : Go.Proofs.SlLaysF0.n6 Try.prog Try.sortKy_ren := {
  mixed := by kernel_rfl
  f6 := ⟨Try.f22.name, by decide, Try.func22.trans (congrArg some (by kernel_rfl))⟩
  f14 := ⟨Try.f47.name, by decide, Try.func47.trans (congrArg some (by kernel_rfl))⟩
  f15 := Try.func48.trans (congrArg some (by kernel_rfl))
  f20 := ⟨Try.f60.name, by decide, Try.func60.trans (congrArg some (by kernel_rfl))⟩
  f21 := ⟨Try.f61.name, by decide, Try.func61.trans (congrArg some (by kernel_rfl))⟩
  f22 := ⟨Try.f62.name, by decide, Try.func62.trans (congrArg some (by kernel_rfl))⟩
  f23 := ⟨Try.f63.name, by decide, Try.func63.trans (congrArg some (by kernel_rfl))⟩
  f24 := ⟨Try.f64.name, by decide, Try.func64.trans (congrArg some (by kernel_rfl))⟩
  f25 := ⟨Try.f65.name, by decide, Try.func65.trans (congrArg some (by kernel_rfl))⟩
  f26 := ⟨Try.f66.name, by decide, Try.func66.trans (congrArg some (by kernel_rfl))⟩
  f27 := ⟨Try.f67.name, by decide, Try.func67.trans (congrArg some (by kernel_rfl))⟩
  f28 := Try.func68.trans (congrArg some (by kernel_rfl))
  f29 := Try.func69.trans (congrArg some (by kernel_rfl))
  f46 := ⟨Try.f75.name, by decide, Try.func75.trans (congrArg some (by kernel_rfl))⟩
  f47 := Try.func76.trans (congrArg some (by kernel_rfl))
  f48 := Try.func77.trans (congrArg some (by kernel_rfl))
  f49 := ⟨Try.f78.name, by decide, Try.func78.trans (congrArg some (by kernel_rfl))⟩
  f50 := ⟨Try.f79.name, by decide, Try.func79.trans (congrArg some (by kernel_rfl))⟩
  f57 := ⟨Try.f82.name, by decide, Try.func82.trans (congrArg some (by kernel_rfl))⟩
  t0 := Try.underlying0
  a0 := Try.isAgg0
  z0 := Try.sizeOf0
  v0 := Try.zeroValue0
  t3 := Try.underlying3
  a3 := Try.isAgg3
  z3 := Try.sizeOf3
  v3 := Try.zeroValue3
  t4 := Try.underlying4
  a4 := Try.isAgg4
  z4 := Try.sizeOf4
  v4 := Try.zeroValue4
  t5 := Try.underlying5
  a5 := Try.isAgg5
  z5 := Try.sizeOf5
  v5 := Try.zeroValue5
  t9 := Try.underlying9
  a9 := Try.isAgg9
  z9 := Try.sizeOf9
  v9 := Try.zeroValue9
  t22 := Try.underlying22
  a22 := Try.isAgg22
  z22 := Try.sizeOf22
  v22 := Try.zeroValue22
  t25 := Try.underlying64
  a25 := Try.isAgg64
  z25 := Try.sizeOf64
  v25 := Try.zeroValue64
  t39 := Try.underlying85
  a39 := Try.isAgg85
  z39 := Try.sizeOf85
  v39 := Try.zeroValue85
  t45 := Try.underlying95
  a45 := Try.isAgg95
  z45 := Try.sizeOf95
  v45 := Try.zeroValue95
  t46 := Try.underlying96
  a46 := Try.isAgg96
  z46 := Try.sizeOf96
  v46 := Try.zeroValue96
  t50 := Try.underlying68
  a50 := Try.isAgg68
  z50 := Try.sizeOf68
  v50 := Try.zeroValue68
  t53 := Try.underlying102
  a53 := Try.isAgg102
  z53 := Try.sizeOf102
  v53 := Try.zeroValue102
  t55 := Try.underlying45
  a55 := Try.isAgg45
  z55 := Try.sizeOf45
  v55 := Try.zeroValue45
  t66 := Try.underlying107
  a66 := Try.isAgg107
  z66 := Try.sizeOf107
  v66 := Try.zeroValue107
  t70 := Try.underlying111
  a70 := Try.isAgg111
  z70 := Try.sizeOf111
  v70 := Try.zeroValue111
  t76 := Try.underlying114
  a76 := Try.isAgg114
  z76 := Try.sizeOf114
  v76 := Try.zeroValue114
  t77 := Try.underlying115
  a77 := Try.isAgg115
  z77 := Try.sizeOf115
  v77 := Try.zeroValue115 }


def cmpKy (x y : Ky) : Int := cmpI x.id y.id
theorem ltKy (x y : Ky) : ltOf cmpKy x y = decide (x.id < y.id) := by
  unfold ltOf cmpKy cmpI
  by_cases h1 : x.id < y.id
  · simp [h1]
  · by_cases h2 : y.id < x.id <;> simp [h1, h2]
theorem swoKy : SWO (ltOf cmpKy) where
  irrefl x := by rw [ltKy]; simp
  trans x y z h1 h2 := by rw [ltKy] at *; simp at *; omega
  ntrans x y z h1 h2 := by rw [ltKy] at *; simp at *; omega
instance : Inhabited Ky := ⟨Ky.zero⟩

set_option maxHeartbeats 1000000 in
theorem cmpNew_any (x y : Ky) (W : World) : Calls Try.prog 23 #[.agg #[.int .i64 x.id, .bool x.block, .int .u8 x.kind, .bool x.after, .bool x.before, .int .i64 x.group], .agg #[.int .i64 y.id, .bool y.block, .int .u8 y.kind, .bool y.after, .bool y.before, .int .i64 y.group]] W
    fun e w' => e = .returned (.int .i64 (cmpKy x y)) ∧ ∃ q os', w' = grow (W.drewN q) os' := by
  unfold cmpKy
  have hcon := fun W' => compare_any x.id y.id W'
  generalize cmpI x.id y.id = r at hcon ⊢
  go_enter Try.func23, Try.ntmps23
  go_wp2_with (go_at_call 24; refine (hcon _).mono ?_; rintro e w' ⟨rfl, rfl⟩)
  go_ret
  exact ⟨rfl, 0, _, by rw [alloc_eq_grow, alloc_eq_grow, grow_grow]; rfl⟩
theorem cmpLaysKy (blk off size : Nat) (w : World) : CmpLays Try.prog 23 #[] Ky.enc 6 cmpKy blk off size w :=
  fun _ _ _ _ x y => cmpNew_any x y _

/-- what a sort of the call's own keys leaves -/
def SortOut (A : Option Addr) (n c : Nat) (l : List Ky) (w : World) (base : Nat) (e : Ending) (w' : World) : Prop :=
  e = .returned (.tuple #[]) ∧ ∃ l' : List Ky, l'.Perm l ∧ l'.Pairwise (fun a b => a.id ≤ b.id) ∧ RdKy w' w'.heap.size A l' ∧ Below base w w' ∧ ∀ j, j < w.heap.size → (∀ k, wb (.slice A n c) = some k → k ≠ j) → w'.heap[j]? = w.heap[j]?

theorem heap_putRowK (w : World) (blk off : Nat) (d : Array Ky) (j : Nat) (h : j ≠ blk) : (putRowK Ky.enc 6 w blk off d).heap[j]? = w.heap[j]? := by
  simp only [putRowK, putRow, mapBlock]
  rw [Array.getElem?_modify, if_neg (fun e => h e.symm)]
theorem size_putRowK (w : World) (blk off : Nat) (d : Array Ky) : (putRowK Ky.enc 6 w blk off d).heap.size = w.heap.size := by
  simp only [putRowK, putRow, mapBlock, Array.size_modify]

theorem perm_of {d d' : Array Ky} (h : PermIn 0 d.size d d') : d'.toList.Perm d.toList := by
  have h1 := h.1
  have h2 := h.2.2
  have e1 : d'.extract 0 d.size = d' := by rw [← h1]; simp
  have e2 : d.extract 0 d.size = d := by simp
  rw [e1, e2] at h2
  exact h2
theorem sorted_of {d : Array Ky} {n : Nat} (hn : d.size = n) (h : SortedIn (ltOf cmpKy) 0 n d) : d.toList.Pairwise (fun a b => a.id ≤ b.id) := by
  rw [List.pairwise_iff_getElem]
  intro i j hi hj hij
  have h2 := h i j (Nat.zero_le _) hij (by rw [← hn]; simpa using hj)
  rw [ltKy] at h2
  have hi' : i < d.size := by simpa using hi
  have hj' : j < d.size := by simpa using hj
  rw [getElem!_pos d i hi', getElem!_pos d j hj'] at h2
  simp at h2
  simpa using h2

set_option maxHeartbeats 1000000 in
theorem sortKy_any (A : Option Addr) (n c base : Nat) (l : List Ky) (w : World) (hown : OwKy w base (.slice A n c) l) (hb : n ≤ 100000000) :
    Calls Try.prog 22 #[.slice A n c, .func (.func 23) #[] #[]] w (SortOut A n c l w base) := by
  have eg : ∀ args w, (callFunc 23 args).run Try.prog w = .ok (.enter 23 args) w := enters_of Try.func23 (by kernel_rfl) rfl
  have none_case : l = [] → n = 0 → Calls Try.prog 22 #[.slice A n c, .func (.func 23) #[] #[]] w (SortOut A n c l w base) := by
    intro h1 h2
    subst h1 h2
    have hcon := AnyF.slices_SortFunc_none Try.sortKy A c (.func (.func 23) #[] #[]) w
    change Calls Try.prog 22 _ _ _ at hcon
    refine hcon.mono ?_
    rintro e w' ⟨rfl, rfl⟩
    exact ⟨rfl, [], List.Perm.refl _, List.Pairwise.nil, Rd.nil, Below.refl _ _, fun _ _ _ => rfl⟩
  rcases hown with ⟨h1, A', h2⟩ | ⟨hx, ⟨h1, h2⟩ | ⟨g, cap, cur, h1, hg, hblk, hn1, hn2, hsz, htk⟩⟩
  · injection h2 with _ h2 _
    exact none_case h1 h2
  · injection h1 with _ h1 _
    exact none_case (List.eq_nil_of_length_eq_zero h2) h1
  · injection h1 with hA hnl hc
    subst hA hnl hc
    by_cases hl0 : l.length = 0
    · exact none_case (List.eq_nil_of_length_eq_zero hl0) hl0
    have hwb : ∀ j, (∀ k, wb (.slice (some ⟨g, 0, none⟩) l.length c) = some k → k ≠ j) → j ≠ g := by
      intro j hk e
      cases c with
      | zero => omega
      | succ c => exact hk g rfl e.symm
    have hlt : g < w.heap.size := (Array.getElem?_eq_some_iff.1 hblk).1
    have hcell : ∀ j u, (l.flatMap Ky.enc)[j]? = some u → w.cell? ⟨g, j, none⟩ = some u := by
      intro j u hu
      rw [← htk] at hu
      have hj := (List.getElem?_eq_some_iff.1 hu).1
      rw [List.getElem?_take_of_lt (by rw [List.length_take] at hj; omega)] at hu
      simp only [World.cell?, hblk]
      simpa using hu
    have hH : HoldsK Ky.enc 6 w g 0 l.toArray := by
      intro j hj
      rw [size_flatK] at hj
      have hj' : j < l.length * 6 := by simpa using hj
      have hq : j / 6 < l.length := by omega
      refine ⟨?_, by simp [World.frozen?, hblk]⟩
      rw [get_flatK _ _ _ _ hj]
      simp only [id]
      have e1 : l.toArray[j / 6]! = l[j / 6] := by rw [getElem!_pos _ _ (by simpa using hq)]; simp
      rw [e1, Nat.zero_add]
      have hm : j % 6 < (Ky.enc l[j / 6]).length := by rw [Ky.enc_len]; omega
      rw [getElem!_pos (Ky.enc l[j / 6]) (j % 6) hm]
      have hf := flat_get (size := 6) Ky.enc_len l (j / 6) (j % 6) _ hq (List.getElem?_eq_getElem hm)
      rw [Nat.div_add_mod'] at hf
      exact hcell j _ hf
    have hcon := AnyQ.slices_SortFunc Try.sortKy 6 Try.isAgg53 Try.sizeOf53 Ky.enc Ky.enc_len Ky.enc_one cmpKy swoKy 23 #[] g 0 c l.toArray w eg (cmpLaysKy g 0 _ w) hH hlt (by simp; omega)
    change Calls Try.prog 22 _ _ _ at hcon
    rw [List.size_toArray] at hcon
    refine hcon.mono ?_
    rintro e w' ⟨rfl, d', q, os, hp, hs, rfl⟩
    have hsize : d'.size = l.length := by simpa using hp.1
    have hH' : HoldsK Ky.enc 6 (sortWorldK Ky.enc 6 w g 0 q d' os) g 0 d' :=
      holdsK_grow Ky.enc 6 _ os g 0 d' (by rw [size_putRowK]; exact hlt) (holdsK_putRowK Ky.enc 6 (Sort.ahead w q) g 0 l.toArray d' hH (by simpa using hsize))
    have hheap : ∀ j, j < w.heap.size → j ≠ g → (sortWorldK Ky.enc 6 w g 0 q d' os).heap[j]? = w.heap[j]? := by
      intro j hj hne
      unfold sortWorldK
      rw [heap_grow_old _ _ (by rw [size_putRowK]; exact hj), heap_putRowK _ _ _ _ _ hne]
      rfl
    have hsz2 : w.heap.size ≤ (sortWorldK Ky.enc 6 w g 0 q d' os).heap.size := by
      have : (sortWorldK Ky.enc 6 w g 0 q d' os).heap.size = (putRowK Ky.enc 6 (Sort.ahead w q) g 0 d').heap.size + os.size := by simp [sortWorldK, grow]
      rw [this, size_putRowK]
      exact Nat.le_add_right _ _
    refine ⟨rfl, d'.toList, by simpa using perm_of (d := l.toArray) (by simpa using hp), sorted_of hsize hs, ?_, ⟨rfl, rfl, rfl, hsz2, fun j hj => hheap j (by omega) (by omega)⟩, fun j hj hne => hheap j hj (hwb j hne)⟩
    intro hl
    refine ⟨_, rfl, Nat.lt_of_lt_of_le hlt hsz2, fun i hi => ?_⟩
    intro j u hu
    have hi' : i < d'.size := by simpa using hi
    have hj6 : j < 6 := by have := (List.getElem?_eq_some_iff.1 hu).1; rw [Ky.enc_len] at this; exact this
    have h3 := (HoldsK.cell hH' hi' hj6).1
    have e3 : (Ky.enc d'[i]!)[j]! = u := by
      rw [getElem!_pos d' i hi', getElem!_pos (Ky.enc d'[i]) j (by rw [Ky.enc_len]; exact hj6)]
      have h4 := List.getElem?_eq_some_iff.1 hu
      obtain ⟨_, h4⟩ := h4
      simpa using h4
    rw [e3, Nat.zero_add] at h3
    rw [add_add']
    have ea : (⟨g, 0, none⟩ : Addr).add (i * 6 + j) = ⟨g, i * 6 + j, none⟩ := by
      unfold Addr.add
      split
      · rename_i h0; rw [h0]
      · simp
    rw [ea]
    exact h3
end Go.Proofs.Ytfnkjcodcoehcaa
